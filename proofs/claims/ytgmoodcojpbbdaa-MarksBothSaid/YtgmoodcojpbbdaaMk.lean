import Derived.Test.YtgmoodcojpbbdaaMkLaw
import Derived.Deep.RegionHeld3
set_option linter.unusedVariables false
set_option linter.unusedSimpArgs false
namespace Go.Proofs.Ytgmoodcojpbbdaa
open Go.RowKit

theorem ov_one (o : Outc) : ∀ u ∈ ocs o, u.oneCell' = true := by
  intro u hu
  simp only [ocs, List.mem_cons, List.not_mem_nil, or_false] at hu
  rcases hu with rfl | rfl | rfl | rfl <;> rfl

set_option maxHeartbeats 400000 in
theorem final_calls (o : Outc) (w : World) :
    Calls Try.prog 20 #[ov o] w fun e w' => e = .returned (.bool (fin o)) ∧ Below w.heap.size w w' := by
  obtain ⟨k, a, b, c⟩ := o
  have HF := Lib.hid (show fin ⟨k, a, b, c⟩ = (decide (2 ≤ k) && decide (k ≤ 5)) from rfl)
  rw [HF.out]
  unfold ov
  obtain ⟨S, hS⟩ : ∃ S, str c = S := ⟨_, rfl⟩
  simp only
  rw [hS]
  by_cases h1 : 2 ≤ k
  · by_cases h2 : k ≤ 5
    · have e1 : decide ((2 : Int) ≤ (k : Int)) = true := by simp; omega
      have e2 : decide ((k : Int) ≤ 5) = true := by simp; omega
      rw [decide_eq_true h1, decide_eq_true h2]
      clear HF
      go_enter Try.func20, Try.ntmps20
      go_wp2
      go_ret
      exact ⟨rfl, below_alloc w _⟩
    · have e1 : decide ((2 : Int) ≤ (k : Int)) = true := by simp; omega
      have e2 : decide ((k : Int) ≤ 5) = false := by simp; omega
      rw [decide_eq_true h1, decide_eq_false h2]
      clear HF
      go_enter Try.func20, Try.ntmps20
      go_wp2
      go_ret
      exact ⟨rfl, below_alloc w _⟩
  · have e1 : decide ((2 : Int) ≤ (k : Int)) = false := by simp; omega
    rw [decide_eq_false h1]
    clear HF
    go_enter Try.func20, Try.ntmps20
    go_wp2
    go_ret
    exact ⟨rfl, below_alloc w _⟩

/-- An outcome that lies in a block. -/
def OutAt (W : World) (b off : Nat) (o : Outc) : Prop := W.cell? ⟨b, off, none⟩ = some (.int .u8 o.k) ∧ W.cell? ⟨b, off + 1, none⟩ = some (.int .u64 o.a) ∧ W.cell? ⟨b, off + 2, none⟩ = some (.int .u64 o.b) ∧ W.cell? ⟨b, off + 3, none⟩ = some (.string ⟨o.c.toArray⟩)
theorem OutAt.new (w : World) (o : Outc) (t : TypeId) : OutAt (w.alloc (.cells #[.int .u8 o.k, .int .u64 o.a, .int .u64 o.b, .string ⟨o.c.toArray⟩] t)) w.heap.size 0 o := by
  have h := heap_alloc_new w (.cells #[.int .u8 o.k, .int .u64 o.a, .int .u64 o.b, .string ⟨o.c.toArray⟩] t)
  exact ⟨cell_of_heap (l := ocs o) h 0 _ rfl, cell_of_heap (l := ocs o) h 1 _ rfl, cell_of_heap (l := ocs o) h 2 _ rfl, cell_of_heap (l := ocs o) h 3 _ rfl⟩
theorem OutAt.tch {w w' : World} {F : List Nat} {b off : Nat} {o : Outc} (h : OutAt w b off o) (ht : Tch F w w') (hb : b ∉ F) : OutAt w' b off o :=
  ⟨ht.cell h.1 hb, ht.cell h.2.1 hb, ht.cell h.2.2.1 hb, ht.cell h.2.2.2 hb⟩
theorem OutAt.below {w w' : World} {b off : Nat} {o : Outc} (h : OutAt w b off o) (hb : Below w.heap.size w w') : OutAt w' b off o := h.tch (Tch.of_below [] hb) (by simp)
theorem cell_set_same {w : World} {a : Addr} {u v : Value} (h : w.cell? a = some v) : (w.setCell a u).cell? a = some u := World.cell?_setCell_same' _ _ _ (by rw [h]; rfl)
theorem cell_set_off {w : World} {b j k : Nat} {u v : Value} (h : w.cell? ⟨b, k, none⟩ = some v) (hne : j ≠ k) : (w.setCell ⟨b, j, none⟩ u).cell? ⟨b, k, none⟩ = some v := by
  have hn : (⟨b, j, none⟩ : Addr) ≠ ⟨b, k, none⟩ := fun e => hne (congrArg Addr.off e)
  exact (World.cell?_setCell_other w _ _ u hn).trans h
/-- An outcome that is stored over another one. -/
theorem OutAt.set4 {w : World} {b off : Nat} {o' : Outc} (h : OutAt w b off o') (o : Outc) :
    OutAt ((((w.setCell ⟨b, off, none⟩ (.int .u8 o.k)).setCell ⟨b, off + 1, none⟩ (.int .u64 o.a)).setCell ⟨b, off + 2, none⟩ (.int .u64 o.b)).setCell ⟨b, off + 3, none⟩ (.string ⟨o.c.toArray⟩)) b off o :=
  ⟨cell_set_off (cell_set_off (cell_set_off (cell_set_same h.1) (by omega)) (by omega)) (by omega),
   cell_set_off (cell_set_off (cell_set_same (cell_set_off h.2.1 (by omega))) (by omega)) (by omega),
   cell_set_off (cell_set_same (cell_set_off (cell_set_off h.2.2.1 (by omega)) (by omega))) (by omega),
   cell_set_same (cell_set_off (cell_set_off (cell_set_off h.2.2.2 (by omega)) (by omega)) (by omega))⟩
theorem ov_is (o : Outc) : ov o = .agg #[.int .u8 o.k, .int .u64 o.a, .int .u64 o.b, .string ⟨o.c.toArray⟩] := rfl

theorem load_out {W : World} {g : Nat} {o : Outc} (h : OutAt W g 0 o) : (loadVar 33 ⟨g, 0, none⟩).run Try.prog W = .ok (ov o) W := by
  obtain ⟨q0, q1, q2, q3⟩ := h
  simp only [Nat.zero_add] at q1 q2 q3
  have ha : (isAgg 33).run Try.prog W = .ok true W := by kernel_rfl
  have hs : (sizeOf 33).run Try.prog W = .ok 4 W := by kernel_rfl
  simp [loadVar, Sem.run_bind, ha, hs, Result.andThen, loadCells, loadCellsFrom, load, Sem.run, plain_add, q0, q1, q2, q3, ov, str]
/-- What a function returns whose results are an outcome in memory, and a slot. -/
theorem results_out {fn : Func} {t u : Tmp} (h : fn.results = #[.cell t 33, .tmp u]) {tmps : Array Value} {W : World} {g : Nat} {o : Outc} {v : Value} (ht : tmps.getD t undef = .pointer (some ⟨g, 0, none⟩)) (hu : tmps.getD u undef = v) (ho : OutAt W g 0 o) :
    (results fn tmps).run Try.prog W = .ok (.tuple #[ov o, v]) W := by
  have hl := load_out ho
  simp only [Array.getD_eq_getD_getElem?] at ht hu
  simp [results, h, ht, hu, asAddr, Sem.run_bind, Sem.run, hl, Result.andThen]

/-- Marks in memory: their map, and their tags in order; all that they are lies in blocks of F. -/
structure Mk (w : World) (a : Nat) (F : List Nat) (ms : Ms) : Prop where
  ex : ∃ r tv D, w.heap[a]? = some (.cells #[.map (some r), tv] 65 (0, 0)) ∧ MapS str w r D ∧ (∀ t, luk D t = (mat ms t).map ov) ∧
    OwnC 9 1 (fun _ => True) w 0 tv ms.length (ms.map fun p => str p.1) ∧ r ∈ F ∧ ∀ g, tv.ownBlock = some g → g ∈ F
  mem : a ∈ F
  nodup : (ms.map (·.1)).Nodup
  lts : ∀ k ∈ F, k < w.heap.size
theorem Mk.lt {w : World} {a : Nat} {F : List Nat} {ms : Ms} (h : Mk w a F ms) : a < w.heap.size := by
  obtain ⟨⟨r, tv, D, h1, _⟩, _, _, _⟩ := h
  exact heap_lt h1
/-- What is done elsewhere turns nothing of them. -/
theorem Mk.tch {w w' : World} {a : Nat} {F G : List Nat} {ms : Ms} (h : Mk w a F ms) (ht : Tch G w w') (hd : ∀ k ∈ F, k ∉ G) : Mk w' a F ms := by
  obtain ⟨⟨r, tv, D, h1, h2, h3, h4, h5, h6⟩, hm, hn, hs⟩ := h
  exact ⟨⟨r, tv, D, (ht.block a (heap_lt h1) (hd a hm)).trans h1, h2.tch ht (hd r h5), h3, h4.tch ht (fun k hk => hd k (h6 k hk)), h5, h6⟩, hm, hn, fun k hk => Nat.lt_of_lt_of_le (hs k hk) ht.size⟩
theorem Mk.below {w w' : World} {a : Nat} {F : List Nat} {ms : Ms} (h : Mk w a F ms) (hb : Below w.heap.size w w') : Mk w' a F ms := h.tch (Tch.of_below [] hb) (fun _ _ hk => by cases hk)
theorem mk_sep {w : World} {a r : Nat} {tv : Value} {D : List (List UInt8 × Value)} {cs0 : Array Value} {n : Nat} {cs : List Value} (h1 : w.heap[a]? = some (.cells cs0 65 (0, 0))) (h2 : MapS str w r D) (h4 : OwnC 9 1 (fun _ => True) w 0 tv n cs) :
    a ≠ r ∧ ∀ g, tv.ownBlock = some g → g ≠ a ∧ g ≠ r := by
  obtain ⟨_, es, cl, g1, _⟩ := h2
  refine ⟨(fun e => (by rw [e, g1] at h1; cases h1)), fun g hg => ?_⟩
  rcases h4.2.2 with ⟨e1, _⟩ | ⟨g', cap, sp, e1, hb, hh, _⟩
  · rw [e1] at hg; simp [Value.ownBlock] at hg
  · rw [e1] at hg
    simp [Value.ownBlock] at hg
    subst hg
    refine ⟨fun e => ?_, (fun e => (by rw [e, g1] at hh; cases hh))⟩
    rw [e, h1] at hh
    simp at hh
theorem mk_close {w w2 : World} {a r : Nat} {F : List Nat} {D' : List (List UInt8 × Value)} {tv v' : Value} {ms' : Ms}
    (H1 : w.heap[a]? = some (.cells #[.map (some r), tv] 65 (0, 0))) (HA : w2.heap[a]? = w.heap[a]?) (HM : MapS str w2 r D') (hD : ∀ t, luk D' t = (mat ms' t).map ov)
    (HO : OwnC 9 1 (fun _ => True) w2 0 v' ms'.length (ms'.map fun p => str p.1)) (hn : (ms'.map (·.1)).Nodup) (ha : a ∈ F) (hr : r ∈ F) (hv : ∀ g, v'.ownBlock = some g → g ∈ F ∨ w.heap.size ≤ g) (ht : Tch F w w2) (hF : ∀ k ∈ F, k < w.heap.size) :
    ∃ F', Mk (w2.setCell ⟨a, 1, none⟩ v') a F' ms' ∧ Tch F w (w2.setCell ⟨a, 1, none⟩ v') ∧ ∀ k ∈ F', k ∈ F ∨ w.heap.size ≤ k := by
  have h2 := HA.trans H1
  obtain ⟨s1, s2⟩ := mk_sep h2 HM HO
  refine ⟨F ++ v'.ownBlock.toList, ⟨⟨r, v', D', ?_, HM.keep (Below.heap_setCell _ _ _ _ (fun e => s1 e.symm)), hD, HO.keep fun k hk => Below.heap_setCell _ _ _ _ (s2 k hk).1, by simp [hr], fun g hg => by simp [hg]⟩, by simp [ha], hn, fun k hk => ?_⟩, ht.setCell _ (.inl ha), fun k hk => ?_⟩
  · exact heap_set_same (l := [.map (some r), tv]) h2 1 v'
  · have hsz : (w2.setCell ⟨a, 1, none⟩ v').heap.size = w2.heap.size := by simp
    rw [hsz]
    rcases List.mem_append.1 hk with h | h
    · exact Nat.lt_of_lt_of_le (hF k h) ht.size
    · exact (HO.lt k (by simpa using h)).2
  · rcases List.mem_append.1 hk with h | h
    · exact .inl h
    · exact hv k (by simpa using h)
theorem zero_out (w : World) : (zeroValue 33).run Try.prog w = .ok (ov oz) w := by kernel_rfl

set_option maxHeartbeats 400000 in
theorem new_calls (w : World) :
    Calls Try.prog 12 #[] w fun e w' => e = .returned (.pointer (some ⟨w.heap.size + 1, 0, none⟩)) ∧ Mk w' (w.heap.size + 1) [w.heap.size, w.heap.size + 1] [] ∧ Below w.heap.size w w' := by
  have hmm := @run_makeMap Try.prog
  go_enter Try.func12, Try.ntmps12
  go_wp2
  go_ret
  refine ⟨rfl, ⟨⟨w.heap.size, .slice none 0 0, [], ?_, ?_, ?_, OwnC.nil_, by simp, by simp [Value.ownBlock]⟩, by simp, by simp, by intro k hk; simp at hk ⊢; omega⟩, (below_alloc w _).trans ((below_alloc _ _).mono (by simp))⟩
  · have := heap_alloc_new (w.alloc (.map #[] 0)) (.cells #[.map (some w.heap.size), .slice none 0 0] 65)
    simpa using this
  · exact (MapS.made w).keep (by rw [heap_alloc_old]; simp)
  · intro t; rfl

set_option maxHeartbeats 400000 in
theorem get_nil (t : List UInt8) (w : World) :
    Calls Try.prog 25 #[.pointer none, str t] w fun e w' => e = .returned (.tuple #[ov oz, .bool false]) ∧ Below w.heap.size w w' := by
  obtain ⟨s, hs⟩ : ∃ s : ByteArray, (⟨t.toArray⟩ : ByteArray) = s := ⟨_, rfl⟩
  unfold str
  rw [hs]
  clear hs
  go_enter Try.func25, Try.ntmps25
  go_wp2
  exact bodyPost_ret (v := .tuple #[ov oz, .bool false]) (by simp [results, Try.results25, go_sem, ov, oz, str]) rfl ⟨rfl, by repeat (first | exact Below.refl _ _ | (refine Below.drew ?_) | (refine Below.alloc ?_ (by simp) _) | (refine Below.setCell ?_ (by simp) _))⟩

set_option maxHeartbeats 400000 in
theorem get_calls (a : Nat) (F : List Nat) (ms : Ms) (t : List UInt8) (w : World) (h : Mk w a F ms) :
    Calls Try.prog 25 #[.pointer (some ⟨a, 0, none⟩), str t] w fun e w' => e = .returned (.tuple #[ov (getM ms t).1, .bool (getM ms t).2]) ∧ Below w.heap.size w w' := by
  obtain ⟨⟨r, tv, D, h1, h2, h3, h4, h5, h6⟩, hm, hn, _⟩ := h
  have hl : ∀ o, (Instr.lookup 48 (.map (some r)) (str t) true).run Try.prog (w.alloc o) = .ok (.tuple #[ov (getM ms t).1, .bool (getM ms t).2]) (w.alloc o) := fun o => by
    have := (h2.tch (Tch.of_below [] (below_alloc w o)) (by simp)).look Try.underlying48 keyStr t _ (zero_out _) true
    rw [this, h3]
    cases hmt : mat ms t with
    | none => simp [getM, hmt]
    | some o => simp [getM, hmt]
  have hc0 := cell_of_heap (l := [.map (some r), tv]) h1 0 _ rfl
  obtain ⟨⟨k, x, y, c⟩, ho⟩ : ∃ o, (getM ms t).1 = o := ⟨_, rfl⟩
  obtain ⟨b, hb⟩ : ∃ b, (getM ms t).2 = b := ⟨_, rfl⟩
  rw [ho, hb] at hl ⊢
  obtain ⟨s, hs⟩ : ∃ s : ByteArray, (⟨t.toArray⟩ : ByteArray) = s := ⟨_, rfl⟩
  obtain ⟨q, hq⟩ : ∃ q : ByteArray, (⟨c.toArray⟩ : ByteArray) = q := ⟨_, rfl⟩
  have hlt := heap_lt h1
  unfold str at hl ⊢
  unfold ov str at hl ⊢
  simp only at hl ⊢
  rw [hs, hq] at hl
  rw [hs, hq]
  clear h1 h2 h3 h4 h5 h6 hm hn hs hq ho hb
  go_enter Try.func25, Try.ntmps25
  go_wp2
  exact bodyPost_ret (v := .tuple #[.agg #[.int .u8 k, .int .u64 x, .int .u64 y, .string q], .bool b]) (by simp [results, Try.results25, go_sem]) rfl ⟨rfl, (by repeat (first | exact Below.refl _ _ | (refine Below.drew ?_) | (refine Below.alloc ?_ (by simp) _) | (refine Below.setCell ?_ (by simp) _)))⟩

theorem Mk.own {w : World} {a : Nat} {F : List Nat} {ms : Ms} (h : Mk w a F ms) : ∃ A c, w.cell? ⟨a, 1, none⟩ = some (.slice A ms.length c) ∧ w.frozen? ⟨a, 1, none⟩ = false := by
  obtain ⟨⟨r, tv, D, h1, h2, h3, h4, h5, h6⟩, hm, hn, _⟩ := h
  obtain ⟨A, c, rfl⟩ := h4.slice
  exact ⟨A, c, cell_of_heap (l := [.map (some r), .slice A ms.length c]) h1 1 _ rfl, froz_of_heap h1 1⟩

set_option maxHeartbeats 400000 in
theorem add_nil (t : List UInt8) (w : World) :
    Calls Try.prog 22 #[.pointer none, str t] w fun e w' => e = .returned (.int .i64 2) ∧ w = w' := by
  unfold str
  go_enter Try.func22, Try.ntmps22
  go_wp2
  go_ret
  exact ⟨rfl, rfl⟩

set_option maxHeartbeats 400000 in
theorem add_arg (a : Nat) (F : List Nat) (ms : Ms) (t : List UInt8) (w : World) (h : Mk w a F ms) (ht : t.length < 1 ∨ 32 < t.length) :
    Calls Try.prog 22 #[.pointer (some ⟨a, 0, none⟩), str t] w fun e w' => e = .returned (.int .i64 1) ∧ w = w' := by
  unfold str
  by_cases h0 : t = []
  · subst h0
    clear ht h
    go_enter Try.func22, Try.ntmps22
    go_wp2
    go_ret
    exact ⟨rfl, rfl⟩
  · have h1 : 32 < t.length := by
      cases t with
      | nil => exact absurd rfl h0
      | cons x r => simp at ht ⊢; omega
    clear ht h
    go_enter Try.func22, Try.ntmps22
    go_wp2
    go_ret
    exact ⟨rfl, rfl⟩

theorem Try.info_string : (Try.prog.info? 9).map (fun i => (i.zero, i.size, i.bytes)) = some (some (.string ⟨#[]⟩), 1, 16) := by kernel_rfl

set_option maxHeartbeats 800000 in
theorem add_calls (a : Nat) (F : List Nat) (ms : Ms) (t : List UInt8) (w : World) (h : Mk w a F ms) (h0 : ¬ t.length < 1) (h32 : ¬ 32 < t.length) :
    Calls Try.prog 22 #[.pointer (some ⟨a, 0, none⟩), str t] w fun e w' => ∃ F', e = .returned (.int .i64 (addM ms t).1) ∧ Mk w' a F' (addM ms t).2 ∧ Tch F w w' ∧ ∀ k ∈ F', k ∈ F ∨ w.heap.size ≤ k := by
  have HM := Lib.hid h
  obtain ⟨⟨r, tv, D, h1, h2, h3, h4, h5, h6⟩, hm, hn, _⟩ := h
  obtain ⟨A, c, rfl⟩ := h4.slice
  have hl : ∀ o, (Instr.lookup 48 (.map (some r)) (str t) true).run Try.prog (w.alloc o) = .ok (.tuple #[ov (getM ms t).1, .bool (getM ms t).2]) (w.alloc o) := fun o => by
    have := (h2.tch (Tch.of_below [] (below_alloc w o)) (by simp)).look Try.underlying48 keyStr t _ (zero_out _) true
    rw [this, h3]
    cases hmt : mat ms t with
    | none => simp [getM, hmt]
    | some o => simp [getM, hmt]
  have hl0 : (Instr.lookup 48 (.map (some r)) (str t) true).run Try.prog w = .ok (.tuple #[ov (getM ms t).1, .bool (getM ms t).2]) w := by
    have := h2.look Try.underlying48 keyStr t _ (zero_out _) true
    rw [this, h3]
    cases hmt : mat ms t with
    | none => simp [getM, hmt]
    | some o => simp [getM, hmt]
  have hc0 := cell_of_heap (l := [.map (some r), .slice A ms.length c]) h1 0 _ rfl
  have hc1 := cell_of_heap (l := [.map (some r), .slice A ms.length c]) h1 1 _ rfl
  have hte : t.isEmpty = false := by cases t with | nil => simp at h0 | cons _ _ => rfl
  have htl : decide (32 < (t.length : Int)) = false := by simp; omega
  have hlt := heap_lt h1
  obtain ⟨n, hnn⟩ : ∃ n, ms.length = n := ⟨_, rfl⟩
  have H2 := Lib.hid h2
  have H3 := Lib.hid h3
  have H4 := Lib.hid h4
  have H6 := Lib.hid h6
  have H1 := Lib.hid h1
  rw [hnn] at hc1
  cases hmt : mat ms t with
  | some o =>
    have ha : addM ms t = (8, ms) := by simp [addM, h0, h32, hmt]
    rw [ha]
    have hg1 : (getM ms t).1 = o := by simp [getM, hmt]
    have hg2 : (getM ms t).2 = true := by simp [getM, hmt]
    rw [hg1, hg2] at hl hl0
    obtain ⟨k, x, y, cc⟩ := o
    unfold str at hl hl0 ⊢
    unfold ov str at hl hl0
    simp only at hl hl0
    clear h1 h2 h3 h4 h6 hm hn ha hg1 hg2 hmt
    go_enter Try.func22, Try.ntmps22
    go_wp2
    go_ret
    exact ⟨F, rfl, HM.out.below (below_alloc w _), Tch.of_below F (below_alloc w _), fun k hk => .inl hk⟩
  | none =>
    have hg1 : (getM ms t).1 = oz := by simp [getM, hmt]
    have hg2 : (getM ms t).2 = false := by simp [getM, hmt]
    rw [hg1, hg2] at hl hl0
    unfold oz at hl hl0
    unfold str at ⊢
    unfold ov str at hl hl0
    simp only at hl hl0
    by_cases hfull : 32 ≤ n
    · have ha : addM ms t = (4, ms) := by simp [addM, h0, h32, hmt, hnn, hfull]
      rw [ha]
      clear h1 h2 h3 h4 h6 hm hn ha hg1 hg2 hmt hnn
      go_enter Try.func22, Try.ntmps22
      go_wp2
      go_ret
      exact ⟨F, rfl, HM.out.below (below_alloc w _), Tch.of_below F (below_alloc w _), fun k hk => .inl hk⟩
    · have ha : addM ms t = (0, ms ++ [(t, oz)]) := by simp [addM, h0, h32, hmt, hnn, hfull]
      rw [ha]
      have HN := Lib.hid hnn
      have HT := Lib.hid hmt
      clear h1 h2 h3 h4 h6 hm hn ha hg1 hg2 hmt hnn
      go_enter Try.func22, Try.ntmps22
      obtain ⟨hne, hog⟩ := mk_sep H1.out H2.out H4.out
      have HOG := Lib.hid hog
      clear hog
      go_wp2_with (at_mapUpdate; refine wpList_mput _ rfl _ _ _ rfl Try.underlying48 keyStr r D rfl ?hM t rfl (ov oz) ?hv ?_)
      case hM => exact H2.out.tch (Tch.of_below [] (below_alloc w _)) (by simp)
      case hv => rfl
      intro w1 hm1 ht1
      have hk0 : w1.cell? ⟨a, 0, none⟩ = some (.map (some r)) := ht1.cell (stays_ (below_alloc w _) hc0) (by simpa using hne)
      have hk1 : w1.cell? ⟨a, 1, none⟩ = some (.slice A n c) := ht1.cell (stays_ (below_alloc w _) hc1) (by simpa using hne)
      have HM1 := Lib.hid hm1
      have HT1 := Lib.hid (show Tch [r] w w1 from (Tch.of_below [r] (below_alloc w _)).trans_ ht1)
      have hsz := HT1.out.size
      have HO1 := Lib.hid (show OwnC 9 1 (fun _ => True) w1 0 (.slice A n c) n (ms.map fun p => str p.1) by
        have h4 := H4.out.tch HT1.out fun k hk => by simpa using (HOG.out k hk).2
        rw [HN.out] at h4
        exact h4)
      obtain ⟨i0, hi, hz0, hz1, hz2⟩ := info_parts Try.info_string
      clear hm1 ht1
      go_wp2_with (at_builtin; refine wpList_appC _ rfl _ _ _ rfl 0 i0 (.string ⟨#[]⟩) 16 Try.underlying35 hi hz0 hz1 hz2 rfl (by decide) (fun _ _ => trivial) (.slice A n c) n (ms.map fun p => str p.1) rfl ?own (some ⟨w1.heap.size, 0, none⟩) 1 1 [str t] rfl ?rd ?hb ?h63 ?hbase ?_)
      case own => exact HO1.out.alloc _
      case rd => exact rdc_box [str t] 1 1 rfl (by simp [str_one]) (by decide)
      case hb => omega
      case h63 => omega
      case hbase => omega
      intro v2 w2 o2 g2 _ _
      obtain ⟨A2, c2, rfl⟩ := o2.slice
      have hra := HM.out.lt
      have HT2 := Lib.hid (show Tch F w w2 from ((HT1.out.mono (G := F) (by simpa using h5)).alloc _).grown g2 (fun k hk => .inl (H6.out k (by rw [HN.out]; exact hk))))
      have hnw : ∀ k, (Value.slice A n c).ownBlock = some k → k ≠ a ∧ k ≠ r := fun k hk => HOG.out k (by rw [HN.out]; exact hk)
      have HA := Lib.hid (show w2.heap[a]? = w.heap[a]? by
        rw [g2.block a (by simp; omega) (fun e => (hnw a e.symm).1 rfl), heap_alloc_old _ _ (by omega)]
        exact HT1.out.block a hra (by simpa using hne))
      have HM2 := Lib.hid (show MapS str w2 r (mput D t (ov oz)) by
        refine HM1.out.keep ?_
        have := HM1.out.lt
        rw [g2.block r (by simp; omega) (fun e => (hnw r e.symm).2 rfl), heap_alloc_old _ _ this])
      have ho2 : OwnC 9 1 (fun _ => True) w2 0 (.slice A2 (n + 1) c2) (ms ++ [(t, oz)]).length ((ms ++ [(t, oz)]).map fun p => str p.1) := by
        rw [List.length_append, List.map_append, HN.out]
        exact o2
      have hv2 : ∀ g, (Value.slice A2 (n + 1) c2).ownBlock = some g → g ∈ F ∨ w.heap.size ≤ g := fun g hg => by
        rename_i q4 q5
        rcases q5 with q5 | q5
        · exact .inl (H6.out g (by rw [HN.out, ← q5]; exact hg))
        · right
          rw [q5] at hg
          simp at hg
          omega
      have HFIN := Lib.hid (mk_close H1.out HA.out HM2.out (fun j => by
        rw [luk_put, mat_snoc _ _ _ HT.out, H3.out]
        split <;> rfl) ho2 (nodup_snoc HM.out.nodup HT.out oz) HM.out.mem h5 hv2 HT2.out HM.out.lts)
      have ha2 := HA.out.trans H1.out
      have hq1 := cell_of_heap (l := [.map (some r), .slice A ms.length c]) ha2 1 _ rfl
      have hq2 := froz_of_heap ha2 1
      clear o2 g2 ho2 hv2 hnw ha2 hk0 hk1
      go_wp2_with fail
      go_ret
      obtain ⟨F', f1, f2, f3⟩ := HFIN.out
      exact ⟨F', rfl, f1, f2, f3⟩
end Go.Proofs.Ytgmoodcojpbbdaa

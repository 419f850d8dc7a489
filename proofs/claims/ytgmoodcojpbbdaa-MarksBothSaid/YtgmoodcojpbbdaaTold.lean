import Derived.Test.YtgmoodcojpbbdaaWorks19
set_option linter.unusedVariables false
set_option linter.unusedSimpArgs false
namespace Go.Proofs.Ytgmoodcojpbbdaa
open Go.RowKit

/-- What something answers: its eight cells. -/
structure Td where
  e : Nat
  o : Outc
  is : Bool
  l : Value
  s : Value
def tdc (x : Td) : List Value := [.int .i64 x.e, .int .u8 x.o.k, .int .u64 x.o.a, .int .u64 x.o.b, .string ⟨x.o.c.toArray⟩, .bool x.is, x.l, x.s]
def tdv (x : Td) : Value := .agg #[.int .i64 x.e, .int .u8 x.o.k, .int .u64 x.o.a, .int .u64 x.o.b, .string ⟨x.o.c.toArray⟩, .bool x.is, x.l, x.s]
def TdAt (W : World) (b : Nat) (x : Td) : Prop := W.cell? ⟨b, 0, none⟩ = some (.int .i64 x.e) ∧ W.cell? ⟨b, 1, none⟩ = some (.int .u8 x.o.k) ∧ W.cell? ⟨b, 2, none⟩ = some (.int .u64 x.o.a) ∧ W.cell? ⟨b, 3, none⟩ = some (.int .u64 x.o.b) ∧
  W.cell? ⟨b, 4, none⟩ = some (.string ⟨x.o.c.toArray⟩) ∧ W.cell? ⟨b, 5, none⟩ = some (.bool x.is) ∧ W.cell? ⟨b, 6, none⟩ = some x.l ∧ W.cell? ⟨b, 7, none⟩ = some x.s
theorem load_told {W : World} {b : Nat} {x : Td} (h : TdAt W b x) : (loadVar 37 ⟨b, 0, none⟩).run Try.prog W = .ok (tdv x) W := by
  obtain ⟨q0, q1, q2, q3, q4, q5, q6, q7⟩ := h
  have ha : (isAgg 37).run Try.prog W = .ok true W := by kernel_rfl
  have hs : (sizeOf 37).run Try.prog W = .ok 8 W := by kernel_rfl
  simp [loadVar, Sem.run_bind, ha, hs, Result.andThen, loadCells, loadCellsFrom, load, Sem.run, plain_add, q0, q1, q2, q3, q4, q5, q6, q7, tdv, str]
theorem results_told {fn : Func} {t : Tmp} (h : fn.results = #[.cell t 37]) {tmps : Array Value} {W : World} {b : Nat} {x : Td} (ht : tmps.getD t undef = .pointer (some ⟨b, 0, none⟩)) (ho : TdAt W b x) :
    (results fn tmps).run Try.prog W = .ok (tdv x) W := by
  have hl := load_told ho
  simp only [Array.getD_eq_getD_getElem?] at ht
  simp [results, h, ht, asAddr, Sem.run_bind, Sem.run, hl, Result.andThen]

/-- A thing done. -/
def opv (K : Int) (t : List UInt8) (o : Outc) (A : Option Addr) (n c : Nat) : Value := .agg #[.int .i64 K, .string ⟨t.toArray⟩, .int .u8 o.k, .int .u64 o.a, .int .u64 o.b, .string ⟨o.c.toArray⟩, .slice A n c]
theorem OwnC.box0 {e : TypeId} {sz : Nat} {w : World} {base g : Nat} (hg : g = w.heap.size) (hb : base ≤ g) : OwnC e sz (fun _ => True) (w.alloc (.cells #[] e)) base (.slice (some ⟨g, 0, none⟩) 0 0) 0 [] := by
  subst hg
  exact ⟨by simp, by simp, .inr ⟨w.heap.size, 0, [], rfl, hb, heap_alloc_new w _, by simp, Nat.le_refl _, by decide, by simp⟩⟩

theorem TdAt.new (w : World) (x : Td) : TdAt (w.alloc (.cells #[.int .i64 x.e, .int .u8 x.o.k, .int .u64 x.o.a, .int .u64 x.o.b, .string ⟨x.o.c.toArray⟩, .bool x.is, x.l, x.s] 37)) w.heap.size x := by
  have h := heap_alloc_new w (.cells #[.int .i64 x.e, .int .u8 x.o.k, .int .u64 x.o.a, .int .u64 x.o.b, .string ⟨x.o.c.toArray⟩, .bool x.is, x.l, x.s] 37)
  have hc := fun j u hj => cell_of_heap (l := tdc x) h j u hj
  exact ⟨hc 0 _ rfl, hc 1 _ rfl, hc 2 _ rfl, hc 3 _ rfl, hc 4 _ rfl, hc 5 _ rfl, hc 6 _ rfl, hc 7 _ rfl⟩
def tz : Td := ⟨0, oz, false, .slice none 0 0, .slice none 0 0⟩

/-- What is at a block is nothing yet. -/
def Z8 (W : World) (b : Nat) : Prop := (W.cell? ⟨b, 0, none⟩ = some (.int .i64 0) ∧ W.cell? ⟨b, 1, none⟩ = some (.int .u8 0) ∧ W.cell? ⟨b, 2, none⟩ = some (.int .u64 0) ∧ W.cell? ⟨b, 3, none⟩ = some (.int .u64 0) ∧
  W.cell? ⟨b, 4, none⟩ = some (.string ⟨#[]⟩) ∧ W.cell? ⟨b, 5, none⟩ = some (.bool false) ∧ W.cell? ⟨b, 6, none⟩ = some (.slice none 0 0) ∧ W.cell? ⟨b, 7, none⟩ = some (.slice none 0 0)) ∧ ∀ j, W.frozen? ⟨b, j, none⟩ = false
def TZ : Obj := .cells #[.int .i64 0, .int .u8 0, .int .u64 0, .int .u64 0, .string ⟨#[]⟩, .bool false, .slice none 0 0, .slice none 0 0] 37
theorem z8_of {W : World} {b : Nat} (h : W.heap[b]? = some TZ) : Z8 W b := by
  have hc := fun j u hj => cell_of_heap (l := tdc tz) h j u hj
  exact ⟨⟨hc 0 _ rfl, hc 1 _ rfl, hc 2 _ rfl, hc 3 _ rfl, hc 4 _ rfl, hc 5 _ rfl, hc 6 _ rfl, hc 7 _ rfl⟩, fun j => froz_of_heap h j⟩
theorem keep2 {w w1 : World} {X : Obj} (hk : ∀ k, w.heap.size < k → k < w.heap.size + 3 → w1.heap[k]? = (((w.alloc X).alloc TZ).alloc TZ).heap[k]?) : Z8 w1 (w.heap.size + 1) ∧ Z8 w1 (w.heap.size + 1 + 1) := by
  refine ⟨z8_of ?_, z8_of ?_⟩
  · rw [hk _ (by omega) (by omega), heap_alloc_old _ _ (by simp)]
    have := heap_alloc_new (w.alloc X) TZ
    rwa [World.size_alloc] at this
  · rw [hk _ (by omega) (by omega)]
    have := heap_alloc_new ((w.alloc X).alloc TZ) TZ
    rwa [World.size_alloc, World.size_alloc] at this
theorem keep2_below {w w1 : World} {X : Obj} (hb : Below (((w.alloc X).alloc TZ).alloc TZ).heap.size (((w.alloc X).alloc TZ).alloc TZ) w1) : (Z8 w1 (w.heap.size + 1) ∧ Z8 w1 (w.heap.size + 1 + 1)) ∧ w.heap.size + 1 + 1 < w1.heap.size ∧ Below w.heap.size w w1 :=
  ⟨keep2 fun k h1 h2 => hb.block k (by simp; omega), by have := hb.size; simp at this; omega, (((below_alloc w X).trans ((below_alloc _ TZ).mono (by simp))).trans ((below_alloc _ TZ).mono (by simp <;> omega))).trans (hb.mono (by simp <;> omega))⟩

def Pres (W : World) (b : Nat) : Prop := ∀ j < 8, ∃ v, W.cell? ⟨b, j, none⟩ = some v
theorem Z8.pres {W : World} {b : Nat} (h : Z8 W b) : Pres W b := by
  obtain ⟨⟨h0, h1, h2, h3, h4, h5, h6, h7⟩, _⟩ := h
  intro j hj
  match j, hj with
  | 0, _ => exact ⟨_, h0⟩
  | 1, _ => exact ⟨_, h1⟩
  | 2, _ => exact ⟨_, h2⟩
  | 3, _ => exact ⟨_, h3⟩
  | 4, _ => exact ⟨_, h4⟩
  | 5, _ => exact ⟨_, h5⟩
  | 6, _ => exact ⟨_, h6⟩
  | 7, _ => exact ⟨_, h7⟩
theorem Pres.set {W : World} {b g i : Nat} {u : Value} (h : Pres W b) : Pres (W.setCell ⟨g, i, none⟩ u) b := fun j hj => by
  obtain ⟨v, hv⟩ := h j hj
  by_cases e : (⟨b, j, none⟩ : Addr) = ⟨g, i, none⟩
  · cases e
    exact ⟨_, cell_set_same hv⟩
  · exact ⟨v, (World.cell?_setCell_other W _ _ u (fun h => e h.symm)).trans hv⟩
theorem told_store {W : World} {b : Nat} (h : Pres W b) (x : Td) : TdAt ((((((((W.setCell ⟨b, 0, none⟩ (.int .i64 x.e)).setCell ⟨b, 1, none⟩ (.int .u8 x.o.k)).setCell ⟨b, 2, none⟩ (.int .u64 x.o.a)).setCell ⟨b, 3, none⟩ (.int .u64 x.o.b)).setCell ⟨b, 4, none⟩ (.string ⟨x.o.c.toArray⟩)).setCell ⟨b, 5, none⟩ (.bool x.is)).setCell ⟨b, 6, none⟩ x.l).setCell ⟨b, 7, none⟩ x.s) b x := by
  refine ⟨?_, ?_, ?_, ?_, ?_, ?_, ?_, ?_⟩
  · exact cell_set_off (cell_set_off (cell_set_off (cell_set_off (cell_set_off (cell_set_off (cell_set_off (cell_set_same (h 0 (by decide)).choose_spec) (by omega)) (by omega)) (by omega)) (by omega)) (by omega)) (by omega)) (by omega)
  · exact cell_set_off (cell_set_off (cell_set_off (cell_set_off (cell_set_off (cell_set_off (cell_set_same ((h.set : Pres _ b) 1 (by decide)).choose_spec) (by omega)) (by omega)) (by omega)) (by omega)) (by omega)) (by omega)
  · exact cell_set_off (cell_set_off (cell_set_off (cell_set_off (cell_set_off (cell_set_same ((h.set.set : Pres _ b) 2 (by decide)).choose_spec) (by omega)) (by omega)) (by omega)) (by omega)) (by omega)
  · exact cell_set_off (cell_set_off (cell_set_off (cell_set_off (cell_set_same ((h.set.set.set : Pres _ b) 3 (by decide)).choose_spec) (by omega)) (by omega)) (by omega)) (by omega)
  · exact cell_set_off (cell_set_off (cell_set_off (cell_set_same ((h.set.set.set.set : Pres _ b) 4 (by decide)).choose_spec) (by omega)) (by omega)) (by omega)
  · exact cell_set_off (cell_set_off (cell_set_same ((h.set.set.set.set.set : Pres _ b) 5 (by decide)).choose_spec) (by omega)) (by omega)
  · exact cell_set_off (cell_set_same ((h.set.set.set.set.set.set : Pres _ b) 6 (by decide)).choose_spec) (by omega)
  · exact cell_set_same ((h.set.set.set.set.set.set.set : Pres _ b) 7 (by decide)).choose_spec
theorem told_zero {W : World} {b : Nat} (h : Pres W b) : TdAt ((((((((W.setCell ⟨b, 0, none⟩ (.int .i64 0)).setCell ⟨b, 1, none⟩ (.int .u8 0)).setCell ⟨b, 2, none⟩ (.int .u64 0)).setCell ⟨b, 3, none⟩ (.int .u64 0)).setCell ⟨b, 4, none⟩ (.string ⟨#[]⟩)).setCell ⟨b, 5, none⟩ (.bool false)).setCell ⟨b, 6, none⟩ (.slice none 0 0)).setCell ⟨b, 7, none⟩ (.slice none 0 0)) b tz := told_store h tz
set_option maxRecDepth 100000 in
set_option maxHeartbeats 4000000 in
theorem does_nil (K : Int) (t : List UInt8) (o : Outc) (A : Option Addr) (n c : Nat) (th : Ms) (w : World) (hr : RdC 5 w A n c (mcs th)) (hn : n ≤ 100) :
    Calls Try.prog 15 #[.pointer none, opv K t o A n c] w fun e w' => e = .returned (tdv ⟨if K = 0 then 2 else 0, oz, false, .slice none 0 0, .slice none 0 0⟩) ∧ Below w.heap.size w w' := by
  have HR := Lib.hid hr
  have hlc := hr.2.1
  have hmx := hr.2.2.1
  unfold opv
  clear hr
  by_cases k0 : K = 0
  · subst k0
    go_enter Try.func15, Try.ntmps15
    go_wp2_with fail
    refine (add_nil t _).mono ?_
    rintro e w1 ⟨rfl, rfl⟩
    go_wp2_with fail
    refine bodyPost_ret (results_told (b := w.heap.size + 1) (x := ⟨2, oz, false, .slice none 0 0, .slice none 0 0⟩) rfl rfl ⟨(by go_simp), (by go_simp <;> rfl), (by go_simp <;> rfl), (by go_simp <;> rfl), (by go_simp <;> rfl), (by go_simp), (by go_simp), (by go_simp)⟩) rfl ⟨rfl, (by repeat (first | with_reducible exact B2 | with_reducible exact Below.refl _ _ | (with_reducible refine Below.drew ?_) | (with_reducible refine Below.setCell ?_ (by first | omega | (simp; done) | (simp; omega)) _) | (with_reducible refine Below.alloc ?_ (by first | (simp; done) | (simp; omega)) _)))⟩
  have h0 : (K == 0) = false := by simp [k0]
  rw [if_neg k0]
  by_cases k1 : K = 1
  · subst k1
    go_enter Try.func15, Try.ntmps15
    go_wp2_with fail
    refine (tell_nil t o _).mono ?_
    rintro e w1 ⟨rfl, b1⟩
    have HP := Lib.hid (keep2_below b1).1.1.pres
    obtain ⟨⟨⟨⟨p0, p1, p2, p3, p4, p5, p6, p7⟩, p8⟩, ⟨q0, q1, q2, q3, q4, q5, q6, q7⟩, q8⟩, hz, B1'⟩ := keep2_below b1
    have B1 := Lib.hid B1'
    clear b1 B1'
    go_wp2_with fail
    refine bodyPost_ret (results_told (b := w.heap.size + 1) (x := tz) rfl rfl ?_) rfl ⟨rfl, ?_⟩
    · skip
      refine told_zero ?_
      repeat (first | with_reducible exact HP.out | with_reducible refine Pres.set ?_)
    have B2 := B1.out
    exact (by repeat (first | with_reducible exact B2 | with_reducible exact Below.refl _ _ | (with_reducible refine Below.drew ?_) | (with_reducible refine Below.setCell ?_ (by first | omega | (simp; done) | (simp; omega)) _) | (with_reducible refine Below.alloc ?_ (by first | (simp; done) | (simp; omega)) _)))
  have h1 : (K == 1) = false := by simp [k1]
  by_cases k2 : K = 2
  · subst k2
    go_enter Try.func15, Try.ntmps15
    go_wp2_with fail
    refine (get_nil t _).mono ?_
    rintro e w1 ⟨rfl, b1⟩
    have HP := Lib.hid (keep2_below b1).1.1.pres
    obtain ⟨⟨⟨⟨p0, p1, p2, p3, p4, p5, p6, p7⟩, p8⟩, ⟨q0, q1, q2, q3, q4, q5, q6, q7⟩, q8⟩, hz, B1'⟩ := keep2_below b1
    have B1 := Lib.hid B1'
    clear b1 B1'
    rw [ov_is]
    go_wp2_with fail
    refine bodyPost_ret (results_told (b := w.heap.size + 1) (x := tz) rfl rfl ?_) rfl ⟨rfl, ?_⟩
    · skip
      refine told_zero ?_
      repeat (first | with_reducible exact HP.out | with_reducible refine Pres.set ?_)
    have B2 := B1.out
    exact (by repeat (first | with_reducible exact B2 | with_reducible exact Below.refl _ _ | (with_reducible refine Below.drew ?_) | (with_reducible refine Below.setCell ?_ (by first | omega | (simp; done) | (simp; omega)) _) | (with_reducible refine Below.alloc ?_ (by first | (simp; done) | (simp; omega)) _)))
  have h2 : (K == 2) = false := by simp [k2]
  by_cases k3 : K = 3
  · subst k3
    go_enter Try.func15, Try.ntmps15
    go_wp2_with fail
    refine (settle_nil t _).mono ?_
    rintro e w1 ⟨rfl, b1⟩
    have HP := Lib.hid (keep2_below b1).1.1.pres
    obtain ⟨⟨⟨⟨p0, p1, p2, p3, p4, p5, p6, p7⟩, p8⟩, ⟨q0, q1, q2, q3, q4, q5, q6, q7⟩, q8⟩, hz, B1'⟩ := keep2_below b1
    have B1 := Lib.hid B1'
    clear b1 B1'
    rw [ov_is]
    go_wp2_with fail
    refine bodyPost_ret (results_told (b := w.heap.size + 1) (x := tz) rfl rfl ?_) rfl ⟨rfl, ?_⟩
    · skip
      refine told_zero ?_
      repeat (first | with_reducible exact HP.out | with_reducible refine Pres.set ?_)
    have B2 := B1.out
    exact (by repeat (first | with_reducible exact B2 | with_reducible exact Below.refl _ _ | (with_reducible refine Below.drew ?_) | (with_reducible refine Below.setCell ?_ (by first | omega | (simp; done) | (simp; omega)) _) | (with_reducible refine Below.alloc ?_ (by first | (simp; done) | (simp; omega)) _)))
  have h3 : (K == 3) = false := by simp [k3]
  obtain ⟨i0, hi, hz0, hz1, hz2⟩ := info_parts Try.info_mark
  by_cases k4 : K = 4
  · subst k4
    go_enter Try.func15, Try.ntmps15
    go_wp2_with (at_builtin; refine wpList_appC _ rfl _ _ _ rfl w.heap.size i0 _ 56 Try.underlying39 hi hz0 hz1 hz2 rfl (by decide) (fun _ _ => trivial) (.slice (some ⟨w.heap.size + 1 + 1 + 1, 0, none⟩) 0 0) 0 [] rfl ?own A n c (mcs th) rfl ?rd ?hb ?h63 ?hbase ?_)
    case own =>
      refine OwnC.box0 ?_ ?_
      · simp
      · omega
    case rd => exact HR.out.below (by repeat (first | with_reducible exact Below.refl _ _ | (with_reducible refine Below.alloc ?_ (by first | (simp; done) | (simp; omega)) _)))
    case hb => omega
    case h63 => omega
    case hbase => simp; omega
    intro v2 w2 o2 g2 y1 y2
    clear y1 y2
    obtain ⟨A2, c2, rfl⟩ := o2.slice
    have hk2 := keep2 (w := w) (w1 := w2) (X := .cells #[.int .i64 4, .string ⟨t.toArray⟩, .int .u8 o.k, .int .u64 o.a, .int .u64 o.b, .string ⟨o.c.toArray⟩, .slice A n c] 41) fun k h1 h2 =>
      (g2.block k (by simp; omega) (by simp [Value.ownBlock]; omega)).trans (heap_alloc_old _ _ (by simp; omega))
    have HP := Lib.hid hk2.1.pres
    obtain ⟨⟨⟨p0, p1, p2, p3, p4, p5, p6, p7⟩, p8⟩, ⟨q0, q1, q2, q3, q4, q5, q6, q7⟩, q8⟩ := hk2
    have hz : w.heap.size + 1 + 1 < w2.heap.size := by have := g2.size; simp at this; omega
    have B1 := Lib.hid (show Below w.heap.size w w2 from Below.grown (by repeat (first | with_reducible exact Below.refl _ _ | (with_reducible refine Below.alloc ?_ (by first | (simp; done) | (simp; omega)) _))) g2 (by simp; omega) (fun k hk => by simp [Value.ownBlock] at hk; omega))
    clear o2 g2
    go_wp2_with fail
    refine (meet_nil A2 n c2 _).mono ?_
    rintro e w3 ⟨rfl, rfl⟩
    go_wp2_with fail
    refine wp_loop_rounds 1 ?_
    rw [rounds_succ]
    go_wp2_with fail
    refine bodyPost_ret (results_told (b := w.heap.size + 1) (x := tz) rfl rfl ?_) rfl ⟨rfl, ?_⟩
    · refine told_zero ?_
      repeat (first | with_reducible exact HP.out | with_reducible refine Pres.set ?_)
    have B2 := B1.out
    exact (by repeat (first | with_reducible exact B2 | with_reducible exact Below.refl _ _ | (with_reducible refine Below.drew ?_) | (with_reducible refine Below.setCell ?_ (by first | omega | (simp; done) | (simp; omega)) _) | (with_reducible refine Below.alloc ?_ (by first | (simp; done) | (simp; omega)) _)))
  have h4 : (K == 4) = false := by simp [k4]
  by_cases k5 : K = 5
  · subst k5
    go_enter Try.func15, Try.ntmps15
    go_wp2_with (at_builtin; refine wpList_appC _ rfl _ _ _ rfl w.heap.size i0 _ 56 Try.underlying39 hi hz0 hz1 hz2 rfl (by decide) (fun _ _ => trivial) (.slice (some ⟨w.heap.size + 1 + 1 + 1, 0, none⟩) 0 0) 0 [] rfl ?own A n c (mcs th) rfl ?rd ?hb ?h63 ?hbase ?_)
    case own =>
      refine OwnC.box0 ?_ ?_
      · simp
      · omega
    case rd => exact HR.out.below (by repeat (first | with_reducible exact Below.refl _ _ | (with_reducible refine Below.alloc ?_ (by first | (simp; done) | (simp; omega)) _)))
    case hb => omega
    case h63 => omega
    case hbase => simp; omega
    intro v2 w2 o2 g2 y1 y2
    clear y1 y2
    obtain ⟨A2, c2, rfl⟩ := o2.slice
    have hk2 := keep2 (w := w) (w1 := w2) (X := .cells #[.int .i64 5, .string ⟨t.toArray⟩, .int .u8 o.k, .int .u64 o.a, .int .u64 o.b, .string ⟨o.c.toArray⟩, .slice A n c] 41) fun k h1 h2 =>
      (g2.block k (by simp; omega) (by simp [Value.ownBlock]; omega)).trans (heap_alloc_old _ _ (by simp; omega))
    have HP := Lib.hid hk2.1.pres
    obtain ⟨⟨⟨p0, p1, p2, p3, p4, p5, p6, p7⟩, p8⟩, ⟨q0, q1, q2, q3, q4, q5, q6, q7⟩, q8⟩ := hk2
    have hz : w.heap.size + 1 + 1 < w2.heap.size := by have := g2.size; simp at this; omega
    have B1 := Lib.hid (show Below w.heap.size w w2 from Below.grown (by repeat (first | with_reducible exact Below.refl _ _ | (with_reducible refine Below.alloc ?_ (by first | (simp; done) | (simp; omega)) _))) g2 (by simp; omega) (fun k hk => by simp [Value.ownBlock] at hk; omega))
    clear o2 g2
    go_wp2_with fail
    refine (keep_nil A2 n c2 _).mono ?_
    rintro e w3 ⟨rfl, rfl⟩
    go_wp2_with fail
    refine bodyPost_ret (results_told (b := w.heap.size + 1) (x := tz) rfl rfl ?_) rfl ⟨rfl, ?_⟩
    · refine told_zero ?_
      repeat (first | with_reducible exact HP.out | with_reducible refine Pres.set ?_)
    have B2 := B1.out
    exact (by repeat (first | with_reducible exact B2 | with_reducible exact Below.refl _ _ | (with_reducible refine Below.drew ?_) | (with_reducible refine Below.setCell ?_ (by first | omega | (simp; done) | (simp; omega)) _) | (with_reducible refine Below.alloc ?_ (by first | (simp; done) | (simp; omega)) _)))
  have h5 : (K == 5) = false := by simp [k5]
  clear k0 k1 k2 k3 k4 k5
  go_enter Try.func15, Try.ntmps15
  go_wp2_with fail
  refine bodyPost_ret (results_told (b := w.heap.size + 1) (x := tz) rfl rfl (by exact (keep2 (fun _ _ _ => rfl)).1.1)) rfl ⟨rfl, (by repeat (first | with_reducible exact B2 | with_reducible exact Below.refl _ _ | (with_reducible refine Below.drew ?_) | (with_reducible refine Below.setCell ?_ (by first | omega | (simp; done) | (simp; omega)) _) | (with_reducible refine Below.alloc ?_ (by first | (simp; done) | (simp; omega)) _)))⟩
end Go.Proofs.Ytgmoodcojpbbdaa

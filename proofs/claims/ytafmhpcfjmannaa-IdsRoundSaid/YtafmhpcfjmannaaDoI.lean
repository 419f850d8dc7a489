import Derived.Test.YtafmhpcfjmannaaVastI
set_option linter.unusedVariables false
set_option linter.unusedSimpArgs false
namespace Go.Proofs.Ytafmhpcfjmannaa
open Go.RowKit

/-- What something answers. -/
structure AnsI where
  e : Nat
  l : List Nat
  k : List Ky
  n : Nat
  is : Bool
def doI (es : Is) (d : OpI) : AnsI × Is :=
  if d.K = 0 then (⟨(putI es d.id d.k).1, [], [], 0, false⟩, (putI es d.id d.k).2)
  else if d.K = 1 then (⟨0, rangeI es d.id d.last, [], 0, false⟩, es)
  else if d.K = 2 then (⟨0, [], [(getA es d.id).1], 0, (getA es d.id).2⟩, es)
  else if d.K = 3 then (⟨0, [], [], (fndA es d.k).1, (fndA es d.k).2⟩, es)
  else if d.K = 4 then (⟨0, [], [], 0, (dropI es d.id).1⟩, (dropI es d.id).2)
  else if d.K = 5 then (⟨0, [], (leaveI es d.k.h).1, 0, false⟩, (leaveI es d.k.h).2)
  else (⟨0, [], [], 0, false⟩, es)
/-- Its five cells. -/
structure Td where
  e : Nat
  l : Value
  k : Value
  n : Nat
  is : Bool
def tdc (x : Td) : List Value := [.int .i64 x.e, x.l, x.k, .int .u32 x.n, .bool x.is]
def tdv (x : Td) : Value := .agg #[.int .i64 x.e, x.l, x.k, .int .u32 x.n, .bool x.is]
def BoxT (w : World) (b : Nat) (x : Td) : Prop := w.heap[b]? = some (.cells (tdc x).toArray 35 (0, 0))
theorem BoxT.out {w : World} {b : Nat} {x : Td} (h : BoxT w b x) : (w.cell? ⟨b, 0, none⟩ = some (.int .i64 x.e) ∧ w.cell? ⟨b, 1, none⟩ = some x.l ∧ w.cell? ⟨b, 2, none⟩ = some x.k ∧ w.cell? ⟨b, 3, none⟩ = some (.int .u32 x.n) ∧ w.cell? ⟨b, 4, none⟩ = some (.bool x.is)) ∧ ∀ j, w.frozen? ⟨b, j, none⟩ = false :=
  ⟨⟨cell_of_heap h 0 _ rfl, cell_of_heap h 1 _ rfl, cell_of_heap h 2 _ rfl, cell_of_heap h 3 _ rfl, cell_of_heap h 4 _ rfl⟩, fun j => froz_of_heap h j⟩
theorem results_told {fn : Func} {t : Tmp} (h : fn.results = #[.cell t 35]) {tmps : Array Value} {W : World} {b : Nat} {x : Td} (ht : tmps.getD t undef = .pointer (some ⟨b, 0, none⟩)) (ho : BoxT W b x) :
    (results fn tmps).run Try.prog W = .ok (tdv x) W := by
  obtain ⟨⟨q0, q1, q2, q3, q4⟩, _⟩ := ho.out
  have ha : (isAgg 35).run Try.prog W = .ok true W := by kernel_rfl
  have hs : (sizeOf 35).run Try.prog W = .ok 5 W := by kernel_rfl
  have hl : (loadVar 35 ⟨b, 0, none⟩).run Try.prog W = .ok (tdv x) W := by
    simp [loadVar, Sem.run_bind, ha, hs, Result.andThen, loadCells, loadCellsFrom, load, Sem.run, plain_add, q0, q1, q2, q3, q4, tdv]
  simp only [Array.getD_eq_getD_getElem?] at ht
  simp [results, h, ht, asAddr, Sem.run_bind, Sem.run, hl, Result.andThen]
def tz : Td := ⟨0, .slice none 0 0, .slice none 0 0, 0, false⟩
def TZ : Obj := .cells #[.int .i64 0, .slice none 0 0, .slice none 0 0, .int .u32 0, .bool false] 35
theorem keepT {F : List Nat} {w w2 : World} {X : Obj} (hF : ∀ k ∈ F, k < w.heap.size) (ht : Tch F (((w.alloc X).alloc TZ).alloc TZ) w2) : BoxT w2 (w.heap.size + 1) tz ∧ BoxT w2 (w.heap.size + 1 + 1) tz ∧ w.heap.size + 1 + 1 < w2.heap.size := by
  have hsz := ht.size
  simp at hsz
  refine ⟨?_, ?_, by omega⟩
  · unfold BoxT
    rw [ht.block _ (by simp <;> omega) (fun hk => by have := hF _ hk; omega), heap_alloc_old _ _ (by simp)]
    have := heap_alloc_new (w.alloc X) TZ
    rwa [World.size_alloc] at this
  · unfold BoxT
    rw [ht.block _ (by simp <;> omega) (fun hk => by have := hF _ hk; omega)]
    have := heap_alloc_new ((w.alloc X).alloc TZ) TZ
    rwa [World.size_alloc, World.size_alloc] at this
def BoxV (w : World) (b : Nat) (v0 v1 v2 v3 v4 : Value) : Prop := w.heap[b]? = some (.cells #[v0, v1, v2, v3, v4] 35 (0, 0))
theorem BoxT.vals {w : World} {b : Nat} {x : Td} (h : BoxT w b x) : BoxV w b (.int .i64 x.e) x.l x.k (.int .u32 x.n) (.bool x.is) := h
theorem BoxV.off {W : World} {b g j : Nat} {u v0 v1 v2 v3 v4 : Value} (h : BoxV W b v0 v1 v2 v3 v4) (hne : b ≠ g) : BoxV (W.setCell ⟨g, j, none⟩ u) b v0 v1 v2 v3 v4 := (Below.heap_setCell W ⟨g, j, none⟩ u b hne).trans h
theorem BoxV.alloc {W : World} {b : Nat} {v0 v1 v2 v3 v4 : Value} (h : BoxV W b v0 v1 v2 v3 v4) (o : Obj) : BoxV (W.alloc o) b v0 v1 v2 v3 v4 := (heap_alloc_old W o (heap_lt h)).trans h
theorem BoxV.set5 {W : World} {b : Nat} {v0 v1 v2 v3 v4 : Value} (h : BoxV W b v0 v1 v2 v3 v4) (u0 u1 u2 u3 u4 : Value) : BoxV (((((W.setCell ⟨b, 0, none⟩ u0).setCell ⟨b, 1, none⟩ u1).setCell ⟨b, 2, none⟩ u2).setCell ⟨b, 3, none⟩ u3).setCell ⟨b, 4, none⟩ u4) b u0 u1 u2 u3 u4 :=
  heap_set_same (heap_set_same (heap_set_same (heap_set_same (heap_set_same (l := [v0, v1, v2, v3, v4]) h 0 u0) 1 u1) 2 u2) 3 u3) 4 u4
theorem results_vals {fn : Func} {t : Tmp} (h : fn.results = #[.cell t 35]) {tmps : Array Value} {W : World} {b : Nat} {v0 v1 v2 v3 v4 : Value} (ht : tmps.getD t undef = .pointer (some ⟨b, 0, none⟩)) (ho : BoxV W b v0 v1 v2 v3 v4) :
    (results fn tmps).run Try.prog W = .ok (.agg #[v0, v1, v2, v3, v4]) W := by
  have hc := fun j u hj => cell_of_heap (l := [v0, v1, v2, v3, v4]) ho j u hj
  have q0 := hc 0 _ rfl
  have q1 := hc 1 _ rfl
  have q2 := hc 2 _ rfl
  have q3 := hc 3 _ rfl
  have q4 := hc 4 _ rfl
  have ha : (isAgg 35).run Try.prog W = .ok true W := by kernel_rfl
  have hs : (sizeOf 35).run Try.prog W = .ok 5 W := by kernel_rfl
  have hl : (loadVar 35 ⟨b, 0, none⟩).run Try.prog W = .ok (.agg #[v0, v1, v2, v3, v4]) W := by
    simp [loadVar, Sem.run_bind, ha, hs, Result.andThen, loadCells, loadCellsFrom, load, Sem.run, plain_add, q0, q1, q2, q3, q4]
  simp only [Array.getD_eq_getD_getElem?] at ht
  simp [results, h, ht, asAddr, Sem.run_bind, Sem.run, hl, Result.andThen]
theorem BoxT.set5 {W : World} {b : Nat} {y : Td} (h : BoxT W b y) (x : Td) : BoxT (((((W.setCell ⟨b, 0, none⟩ (.int .i64 x.e)).setCell ⟨b, 1, none⟩ x.l).setCell ⟨b, 2, none⟩ x.k).setCell ⟨b, 3, none⟩ (.int .u32 x.n)).setCell ⟨b, 4, none⟩ (.bool x.is)) b x :=
  heap_set_same (heap_set_same (heap_set_same (heap_set_same (heap_set_same h 0 _) 1 _) 2 _) 3 _) 4 _
theorem BoxT.off {W : World} {b g j : Nat} {u : Value} {y : Td} (h : BoxT W b y) (hne : b ≠ g) : BoxT (W.setCell ⟨g, j, none⟩ u) b y := (Below.heap_setCell W ⟨g, j, none⟩ u b hne).trans h
/-- What is to be known behind something done. -/
def DoP (x : AnsI) (w0 w : World) (a : Nat) (F : List Nat) (es' : Is) (e : Ending) (w' : World) : Prop :=
  ∃ F' lv kw, e = .returned (tdv ⟨x.e, lv, kw, x.n, x.is⟩) ∧ OwnN w' w.heap.size lv x.l ∧ OwnK w' w.heap.size kw x.k ∧ IkF w0 w' a F' es' ∧ Tch F w w' ∧ (∀ k ∈ F', k ∈ F ∨ w.heap.size ≤ k) ∧ (∀ g, lv.ownBlock = some g → g ∉ F') ∧ ∀ g, kw.ownBlock = some g → g ∉ F'
theorem OwnN.tch {w w' : World} {base : Nat} {v : Value} {l : List Nat} {F : List Nat} (h : OwnN w base v l) (ht : Tch F w w') (hne : ∀ k, v.ownBlock = some k → k ∉ F) : OwnN w' base v l := OwnC.tch h ht hne
theorem OwnK.tch {w w' : World} {base : Nat} {v : Value} {l : List Ky} {F : List Nat} (h : OwnK w base v l) (ht : Tch F w w') (hne : ∀ k, v.ownBlock = some k → k ∉ F) : OwnK w' base v l := OwnC.tch h ht hne
/-- The end of each way. -/
theorem do_fin {w0 w w2 w' : World} {a : Nat} {F F' : List Nat} {es' : Is} {x : AnsI} {lv kw v : Value} {X : Obj} {b : Nat} (hv : v = tdv ⟨x.e, lv, kw, x.n, x.is⟩)
    (hm : IkF w0 w2 a F' es') (hF : ∀ k ∈ F, k < w.heap.size) (t2 : Tch F (((w.alloc X).alloc TZ).alloc TZ) w2) (f2 : ∀ k ∈ F', k ∈ F ∨ (((w.alloc X).alloc TZ).alloc TZ).heap.size ≤ k) (h0 : w0.heap.size ≤ w.heap.size)
    (hb : b = (((w.alloc X).alloc TZ).alloc TZ).heap.size) (hl : OwnN w2 b lv x.l) (hk : OwnK w2 b kw x.k) (t3 : Tch [w.heap.size + 1, w.heap.size + 1 + 1] w2 w') (hlF : ∀ g, lv.ownBlock = some g → g ∉ F') (hkF : ∀ g, kw.ownBlock = some g → g ∉ F') :
    DoP x w0 w a F es' (.returned v) w' := by
  subst hb hv
  have hs : (((w.alloc X).alloc TZ).alloc TZ).heap.size = w.heap.size + 1 + 1 + 1 := by simp
  have t1 : Tch F w (((w.alloc X).alloc TZ).alloc TZ) := (((Tch.refl F w).alloc _).alloc _).alloc _
  have hne : ∀ k ∈ F', k ∉ [w.heap.size + 1, w.heap.size + 1 + 1] := fun k hk hm2 => by
    simp at hm2
    rcases f2 k hk with h | h
    · have := hF k h; omega
    · omega
  refine ⟨F', lv, kw, rfl, ?_, ?_, ?_, (t1.trans_ t2).trans t3 (fun k hk => by simp at hk; right; omega), fun k hk => ?_, hlF, hkF⟩
  · exact OwnC.base ((hl.tch t3 (fun k hk hm2 => by have := (OwnC.lt hl k hk).1; simp at hm2; omega))) (by omega)
  · exact OwnC.base ((hk.tch t3 (fun k hk' hm2 => by have := (OwnC.lt hk k hk').1; simp at hm2; omega))) (by omega)
  · refine ⟨hm.old.trans (t3.below hm.old.size (fun k hk => by simp at hk; omega)), hm.is.tch t3 hne, hm.hi, hm.good⟩
  · rcases f2 k hk with h | h
    · exact .inl h
    · right; omega
theorem own_last {w w' : World} {o : Obj} (h : w'.heap.size = w.heap.size) (hh : True := trivial) : (w'.alloc o).heap[w.heap.size]? = some o := by
  rw [← h]
  exact heap_alloc_new w' o
theorem nil_own (b : Nat) (w : World) : OwnN w b (.slice none 0 0) [] ∧ OwnK w b (.slice none 0 0) [] ∧ ∀ F : List Nat, ∀ g, (Value.slice none 0 0).ownBlock = some g → g ∉ F :=
  ⟨OwnC.nil_, OwnC.nil_, fun F g hg => by simp [Value.ownBlock] at hg⟩

set_option maxRecDepth 100000 in
set_option maxHeartbeats 4000000 in
theorem does_calls {w0 w : World} {a : Nat} {F : List Nat} {es es' : Is} {d : OpI} {x : AnsI} (h : IkF w0 w a F es) (hd : OkI d) (r : doI es d = (x, es')) :
    Calls Try.prog 14 #[.pointer (some ⟨a, 0, none⟩), .agg #[.int .i64 d.K, .int .u32 d.id, .int .u32 d.last, .int .i64 d.k.h, .string ⟨d.k.t.toArray⟩]] w (DoP x w0 w a F es') := by
  have H := Lib.hid h
  obtain ⟨hd1, hd2⟩ := hd
  obtain ⟨K, i, l, kh, kt⟩ := d
  simp only at hd1 hd2 ⊢
  have H3 := Lib.hid (show IkF w0 (((w.alloc (.cells #[.int .i64 K, .int .u32 i, .int .u32 l, .int .i64 kh, .string ⟨kt.toArray⟩] 40)).alloc TZ).alloc TZ) a F es from
    h.below (((below_alloc w _).trans ((below_alloc _ _).mono (by simp))).trans ((below_alloc _ _).mono (by simp <;> omega))))
  have HF := Lib.hid h.is.lts
  have HW := Lib.hid h.old.size
  have R := Lib.hid r
  clear h r
  by_cases k0 : K = 0
  · subst k0
    obtain ⟨n, e2, hp⟩ : ∃ n e2, putI es i ⟨kh, kt⟩ = (n, e2) := by
      cases h : putI es i ⟨kh, kt⟩ with
      | mk n e2 => exact ⟨n, e2, rfl⟩
    have HP := Lib.hid hp
    have r := R.out
    simp only [doI, if_true, hp] at r
    cases r
    clear hp
    go_enter Try.func14, Try.ntmps14
    go_wp2_with fail
    refine (if_put i ⟨kh, kt⟩ H3.out hd1 HP.out).mono ?_
    rintro e w2 ⟨F2, rfl, m2, t2, f2⟩
    obtain ⟨k1, k2, hz⟩ := keepT HF.out t2
    obtain ⟨⟨p0, p1, p2, p3, p4⟩, p5⟩ := k1.out
    obtain ⟨⟨q0, q1, q2, q3, q4⟩, q5⟩ := k2.out
    simp only [tz] at p0 p1 p2 p3 p4 q0 q1 q2 q3 q4
    have hz1 : w.heap.size + 1 < w2.heap.size := by omega
    have K1 := Lib.hid k1
    have M2 := Lib.hid m2
    have T2 := Lib.hid t2
    have F2' := Lib.hid f2
    clear m2 t2 f2 k1 k2
    go_wp2_with fail
    refine forgetX (fun W => BoxV W (w.heap.size + 1) (.int .i64 n) (.slice none 0 0) (.slice none 0 0) (.int .u32 0) (.bool false) ∧ Tch [w.heap.size + 1, w.heap.size + 1 + 1] w2 W) ⟨?_, ?_⟩ ?_
    · with_reducible refine (BoxV.off K1.out.vals ?_).set5 _ _ _ _ _
      omega
    · repeat (first | with_reducible exact Tch.refl _ _ | with_reducible refine Tch.setCell ?_ _ (by simp) | with_reducible refine Tch.alloc ?_ _)
    rintro W3 ⟨hbx, t3⟩
    exact bodyPost_ret (results_vals rfl rfl hbx) rfl (do_fin (by simp [tdv]) (b := w.heap.size + 1 + 1 + 1) M2.out HF.out T2.out F2'.out HW.out (by simp) (nil_own _ _).1 (nil_own _ _).2.1 t3 ((nil_own 0 w).2.2 _) ((nil_own 0 w).2.2 _))
  have n0 : (K == 0) = false := by rw [ibeq, decide_eq_false k0]
  by_cases k1 : K = 1
  · subst k1
    obtain ⟨L, hL⟩ : ∃ L, rangeI es i l = L := ⟨_, rfl⟩
    have HL := Lib.hid hL
    have r := R.out
    simp only [doI, if_neg k0, if_true, hL] at r
    cases r
    clear hL
    go_enter Try.func14, Try.ntmps14
    go_wp2_with fail
    refine (if_range i l H3.out hd1 hd2 HL.out).mono ?_
    rintro e w2 ⟨v2, rfl, o2, m2, b2⟩
    obtain ⟨A2, c2, rfl⟩ := OwnC.slice o2
    have O2 := Lib.hid o2
    have t2 := Tch.of_below F b2
    have f2 : ∀ k ∈ F, k ∈ F ∨ (((w.alloc (.cells #[.int .i64 1, .int .u32 i, .int .u32 l, .int .i64 kh, .string ⟨kt.toArray⟩] 40)).alloc TZ).alloc TZ).heap.size ≤ k := fun k hk => .inl hk
    have OF := Lib.hid (show ∀ g, (Value.slice A2 L.length c2).ownBlock = some g → g ∉ F from fun g hg hF => by have h1 := (OwnC.lt o2 g hg).1; have h2 := HF.out g hF; simp at h1; omega)
    clear o2 b2
    obtain ⟨k1, k2, hz⟩ := keepT HF.out t2
    obtain ⟨⟨p0, p1, p2, p3, p4⟩, p5⟩ := k1.out
    obtain ⟨⟨q0, q1, q2, q3, q4⟩, q5⟩ := k2.out
    simp only [tz] at p0 p1 p2 p3 p4 q0 q1 q2 q3 q4
    have hz1 : w.heap.size + 1 < w2.heap.size := by omega
    have K1 := Lib.hid k1
    have M2 := Lib.hid m2
    have T2 := Lib.hid t2
    have F2' := Lib.hid f2
    clear m2 t2 f2 k1 k2
    go_wp2_with fail
    refine forgetX (fun W => BoxV W (w.heap.size + 1) (.int .i64 0) (.slice A2 L.length c2) (.slice none 0 0) (.int .u32 0) (.bool false) ∧ Tch [w.heap.size + 1, w.heap.size + 1 + 1] w2 W) ⟨?_, ?_⟩ ?_
    · with_reducible refine (BoxV.off K1.out.vals ?_).set5 _ _ _ _ _
      omega
    · repeat (first | with_reducible exact Tch.refl _ _ | with_reducible refine Tch.setCell ?_ _ (by simp) | with_reducible refine Tch.alloc ?_ _)
    rintro W3 ⟨hbx, t3⟩
    exact bodyPost_ret (results_vals rfl rfl hbx) rfl (do_fin (by simp [tdv]) (b := w.heap.size + 1 + 1 + 1) M2.out HF.out T2.out F2'.out HW.out (by simp) (by have := O2.out; simpa using this) (nil_own _ _).2.1 t3 OF.out ((nil_own 0 w).2.2 _))
  have n1 : (K == 1) = false := by rw [ibeq, decide_eq_false k1]
  by_cases k2 : K = 2
  · subst k2
    obtain ⟨⟨vh, vt⟩, b, hg⟩ : ∃ v b, getA es i = (v, b) := ⟨_, _, rfl⟩
    have HG := Lib.hid hg
    have r := R.out
    simp only [doI, if_neg k0, if_neg k1, if_true, hg] at r
    cases r
    clear hg
    go_enter Try.func14, Try.ntmps14
    go_wp2_with fail
    refine (if_get i H3.out HG.out).mono ?_
    rintro e w2 ⟨rfl, m2, b2⟩
    simp only
    have t2 := Tch.of_below F b2
    have f2 : ∀ k ∈ F, k ∈ F ∨ (((w.alloc (.cells #[.int .i64 2, .int .u32 i, .int .u32 l, .int .i64 kh, .string ⟨kt.toArray⟩] 40)).alloc TZ).alloc TZ).heap.size ≤ k := fun k hk => .inl hk
    have hlf : ∀ g ∈ F, g < w.heap.size := HF.out
    have HLF := Lib.hid hlf
    clear b2 hlf
    obtain ⟨k1, k2, hz⟩ := keepT HF.out t2
    have hz1 : w.heap.size + 1 < w2.heap.size := by omega
    have K1 := Lib.hid k1
    have M2 := Lib.hid m2
    have T2 := Lib.hid t2
    have F2' := Lib.hid f2
    have K2 := Lib.hid k2
    clear m2 t2 f2 k1 k2 hz1
    go_upto_region 9 with fail
    refine forget (fun W => KyAt W w2.heap.size 0 ⟨vh, vt⟩ ∧ BoxT W (w.heap.size + 1) tz ∧ BoxT W (w.heap.size + 1 + 1) tz ∧ Below w2.heap.size w2 W ∧ w2.heap.size < W.heap.size) ⟨KyAt.new w2 ⟨vh, vt⟩ _, (heap_alloc_old w2 _ (heap_lt K1.out)).trans K1.out, (heap_alloc_old w2 _ (heap_lt K2.out)).trans K2.out, below_alloc w2 _, by simp⟩ ?_
    rintro W ⟨⟨y0, y1⟩, k1, k2, bw, hzw⟩
    obtain ⟨⟨p0, p1, p2, p3, p4⟩, p5⟩ := k1.out
    obtain ⟨⟨q0, q1, q2, q3, q4⟩, q5⟩ := k2.out
    simp only [tz] at p0 p1 p2 p3 p4 q0 q1 q2 q3 q4
    have hz1 : w.heap.size + 1 < W.heap.size := by omega
    have hz2 : w.heap.size + 1 + 1 < W.heap.size := by omega
    have K1' := Lib.hid k1
    have BW := Lib.hid bw
    clear k1 k2 bw hz
    simp only at y0 y1
    go_wp2_with fail
    refine forgetX (fun W2 => BoxV W2 (w.heap.size + 1) (.int .i64 0) (.slice none 0 0) (.slice (some ⟨W.heap.size, 0, none⟩) 1 1) (.int .u32 0) (.bool b) ∧ Tch [w.heap.size + 1, w.heap.size + 1 + 1] W W2 ∧ W2.heap[W.heap.size]? = some (.cells #[.int .i64 vh, .string ⟨vt.toArray⟩] 38 (0, 0))) ⟨?_, ?_, ?_⟩ ?_
    · have hne : w.heap.size + 1 ≠ w.heap.size + 1 + 1 := by omega
      with_reducible exact BoxV.alloc (BoxV.set5 (BoxV.off (BoxV.off (BoxV.off (BoxV.off (BoxV.off K1'.out.vals hne) hne) hne) hne) hne) _ _ _ _ _) _
    · repeat (first | with_reducible exact Tch.refl _ _ | with_reducible refine Tch.setCell ?_ _ (by simp) | with_reducible refine Tch.alloc ?_ _)
    · exact own_last (by simp)
    rintro W3 ⟨hbx, t3, hk3⟩
    have hsz3 := (t3.size)
    have hkn : OwnK W3 (w.heap.size + 1 + 1 + 1) (.slice (some ⟨W.heap.size, 0, none⟩) 1 1) [⟨vh, vt⟩] := ⟨rfl, kcs_one _, .inr ⟨W.heap.size, 1, [], rfl, by omega, hk3, by simp, Nat.le_refl _, by decide, by simp⟩⟩
    have hlw := HLF.out
    have h0 := HW.out
    have tW := (Tch.of_below F (((((below_alloc w (.cells #[.int .i64 2, .int .u32 i, .int .u32 l, .int .i64 kh, .string ⟨kt.toArray⟩] 40)).trans ((below_alloc _ TZ).mono (by simp)))).trans ((below_alloc _ TZ).mono (by simp <;> omega)))))
    have hne : ∀ k ∈ F, k ∉ [w.heap.size + 1, w.heap.size + 1 + 1] := fun k hk hm2 => by
      have := hlw k hk
      simp at hm2
      omega
    refine bodyPost_ret (results_vals rfl rfl hbx) rfl ⟨F, .slice none 0 0, .slice (some ⟨W.heap.size, 0, none⟩) 1 1, by simp [tdv], OwnC.nil_, OwnC.base hkn (by omega), ?_, ?_, fun k hk => .inl hk, (nil_own 0 w).2.2 _, fun g hg hF => ?_⟩
    · have m3 := M2.out.below BW.out
      exact ⟨m3.old.trans (t3.below m3.old.size (fun k hk => by simp at hk; omega)), m3.is.tch t3 hne, m3.hi, m3.good⟩
    · exact (((tW.trans_ T2.out).trans_ (Tch.of_below F BW.out))).trans t3 (fun k hk => by simp at hk; right; omega)
    · simp [Value.ownBlock] at hg
      subst hg
      have := hlw _ hF
      omega
  have n2 : (K == 2) = false := by rw [ibeq, decide_eq_false k2]
  by_cases k3 : K = 3
  · subst k3
    obtain ⟨n, b, hg⟩ : ∃ n b, fndA es ⟨kh, kt⟩ = (n, b) := ⟨_, _, rfl⟩
    have HG := Lib.hid hg
    have r := R.out
    simp only [doI, if_neg k0, if_neg k1, if_neg k2, if_true, hg] at r
    cases r
    clear hg
    go_enter Try.func14, Try.ntmps14
    go_wp2_with fail
    refine (if_find ⟨kh, kt⟩ H3.out HG.out).mono ?_
    rintro e w2 ⟨rfl, m2, b2⟩
    have t2 := Tch.of_below F b2
    have f2 : ∀ k ∈ F, k ∈ F ∨ (((w.alloc (.cells #[.int .i64 3, .int .u32 i, .int .u32 l, .int .i64 kh, .string ⟨kt.toArray⟩] 40)).alloc TZ).alloc TZ).heap.size ≤ k := fun k hk => .inl hk
    clear b2
    obtain ⟨k1, k2, hz⟩ := keepT HF.out t2
    obtain ⟨⟨p0, p1, p2, p3, p4⟩, p5⟩ := k1.out
    obtain ⟨⟨q0, q1, q2, q3, q4⟩, q5⟩ := k2.out
    simp only [tz] at p0 p1 p2 p3 p4 q0 q1 q2 q3 q4
    have hz1 : w.heap.size + 1 < w2.heap.size := by omega
    have K1 := Lib.hid k1
    have M2 := Lib.hid m2
    have T2 := Lib.hid t2
    have F2' := Lib.hid f2
    clear m2 t2 f2 k1 k2
    go_wp2_with fail
    refine forgetX (fun W => BoxV W (w.heap.size + 1) (.int .i64 0) (.slice none 0 0) (.slice none 0 0) (.int .u32 n) (.bool b) ∧ Tch [w.heap.size + 1, w.heap.size + 1 + 1] w2 W) ⟨?_, ?_⟩ ?_
    · with_reducible refine (BoxV.off (BoxV.off K1.out.vals ?_) ?_).set5 _ _ _ _ _
      all_goals omega
    · repeat (first | with_reducible exact Tch.refl _ _ | with_reducible refine Tch.setCell ?_ _ (by simp) | with_reducible refine Tch.alloc ?_ _)
    rintro W3 ⟨hbx, t3⟩
    exact bodyPost_ret (results_vals rfl rfl hbx) rfl (do_fin (by simp [tdv]) (b := w.heap.size + 1 + 1 + 1) M2.out HF.out T2.out F2'.out HW.out (by simp) (nil_own _ _).1 (nil_own _ _).2.1 t3 ((nil_own 0 w).2.2 _) ((nil_own 0 w).2.2 _))
  have n3 : (K == 3) = false := by rw [ibeq, decide_eq_false k3]
  by_cases k4 : K = 4
  · subst k4
    obtain ⟨b, e2, hp⟩ : ∃ b e2, dropI es i = (b, e2) := by
      cases h : dropI es i with
      | mk n e2 => exact ⟨n, e2, rfl⟩
    have HP := Lib.hid hp
    have r := R.out
    simp only [doI, if_neg k0, if_neg k1, if_neg k2, if_neg k3, if_true, hp] at r
    cases r
    clear hp
    go_enter Try.func14, Try.ntmps14
    go_wp2_with fail
    refine (if_drop i H3.out HP.out).mono ?_
    rintro e w2 ⟨F2, rfl, m2, t2, f2⟩
    obtain ⟨k1, k2, hz⟩ := keepT HF.out t2
    obtain ⟨⟨p0, p1, p2, p3, p4⟩, p5⟩ := k1.out
    obtain ⟨⟨q0, q1, q2, q3, q4⟩, q5⟩ := k2.out
    simp only [tz] at p0 p1 p2 p3 p4 q0 q1 q2 q3 q4
    have hz1 : w.heap.size + 1 < w2.heap.size := by omega
    have K1 := Lib.hid k1
    have M2 := Lib.hid m2
    have T2 := Lib.hid t2
    have F2' := Lib.hid f2
    clear m2 t2 f2 k1 k2
    go_wp2_with fail
    refine forgetX (fun W => BoxV W (w.heap.size + 1) (.int .i64 0) (.slice none 0 0) (.slice none 0 0) (.int .u32 0) (.bool b) ∧ Tch [w.heap.size + 1, w.heap.size + 1 + 1] w2 W) ⟨?_, ?_⟩ ?_
    · with_reducible refine (BoxV.off K1.out.vals ?_).set5 _ _ _ _ _
      omega
    · repeat (first | with_reducible exact Tch.refl _ _ | with_reducible refine Tch.setCell ?_ _ (by simp) | with_reducible refine Tch.alloc ?_ _)
    rintro W3 ⟨hbx, t3⟩
    exact bodyPost_ret (results_vals rfl rfl hbx) rfl (do_fin (by simp [tdv]) (b := w.heap.size + 1 + 1 + 1) M2.out HF.out T2.out F2'.out HW.out (by simp) (nil_own _ _).1 (nil_own _ _).2.1 t3 ((nil_own 0 w).2.2 _) ((nil_own 0 w).2.2 _))
  have n4 : (K == 4) = false := by rw [ibeq, decide_eq_false k4]
  by_cases k5 : K = 5
  · subst k5
    obtain ⟨gl, e2, hp⟩ : ∃ gl e2, leaveI es kh = (gl, e2) := by
      cases h : leaveI es kh with
      | mk n e2 => exact ⟨n, e2, rfl⟩
    have HP := Lib.hid hp
    have r := R.out
    simp only [doI, if_neg k0, if_neg k1, if_neg k2, if_neg k3, if_neg k4, if_true, hp] at r
    cases r
    clear hp
    go_enter Try.func14, Try.ntmps14
    go_wp2_with fail
    refine (if_leave kh H3.out HP.out).mono ?_
    rintro e w2 ⟨v2, F2, rfl, o2, m2, t2, f2, of2⟩
    obtain ⟨A2, c2, rfl⟩ := OwnC.slice o2
    have O2 := Lib.hid o2
    have OF := Lib.hid of2
    clear o2 of2
    obtain ⟨k1, k2, hz⟩ := keepT HF.out t2
    obtain ⟨⟨p0, p1, p2, p3, p4⟩, p5⟩ := k1.out
    obtain ⟨⟨q0, q1, q2, q3, q4⟩, q5⟩ := k2.out
    simp only [tz] at p0 p1 p2 p3 p4 q0 q1 q2 q3 q4
    have hz1 : w.heap.size + 1 < w2.heap.size := by omega
    have K1 := Lib.hid k1
    have M2 := Lib.hid m2
    have T2 := Lib.hid t2
    have F2' := Lib.hid f2
    clear m2 t2 f2 k1 k2
    go_wp2_with fail
    refine forgetX (fun W => BoxV W (w.heap.size + 1) (.int .i64 0) (.slice none 0 0) (.slice A2 gl.length c2) (.int .u32 0) (.bool false) ∧ Tch [w.heap.size + 1, w.heap.size + 1 + 1] w2 W) ⟨?_, ?_⟩ ?_
    · with_reducible refine (BoxV.off K1.out.vals ?_).set5 _ _ _ _ _
      omega
    · repeat (first | with_reducible exact Tch.refl _ _ | with_reducible refine Tch.setCell ?_ _ (by simp) | with_reducible refine Tch.alloc ?_ _)
    rintro W3 ⟨hbx, t3⟩
    exact bodyPost_ret (results_vals rfl rfl hbx) rfl (do_fin (by simp [tdv]) (b := w.heap.size + 1 + 1 + 1) M2.out HF.out T2.out F2'.out HW.out (by simp) (nil_own _ _).1 (by have := O2.out; simpa using this) t3 ((nil_own 0 w).2.2 _) OF.out)
  have n5 : (K == 5) = false := by rw [ibeq, decide_eq_false k5]
  have r := R.out
  simp only [doI, if_neg k0, if_neg k1, if_neg k2, if_neg k3, if_neg k4, if_neg k5] at r
  cases r
  obtain ⟨k1', k2', hz⟩ := keepT (F := F) (X := .cells #[.int .i64 K, .int .u32 i, .int .u32 l, .int .i64 kh, .string ⟨kt.toArray⟩] 40) HF.out (Tch.refl _ _)
  have K1 := Lib.hid k1'
  clear k0 k1 k2 k3 k4 k5 k1' k2' hz
  go_enter Try.func14, Try.ntmps14
  go_wp2_with fail
  refine forgetX (fun W => BoxV W (w.heap.size + 1) (.int .i64 0) (.slice none 0 0) (.slice none 0 0) (.int .u32 0) (.bool false) ∧ Tch [w.heap.size + 1, w.heap.size + 1 + 1] (((w.alloc (.cells #[.int .i64 K, .int .u32 i, .int .u32 l, .int .i64 kh, .string ⟨kt.toArray⟩] 40)).alloc TZ).alloc TZ) W) ⟨?_, ?_⟩ ?_
  · exact K1.out.vals
  · exact Tch.refl _ _
  rintro W3 ⟨hbx, t3⟩
  exact bodyPost_ret (results_vals rfl rfl hbx) rfl (do_fin (by simp [tdv]) (b := w.heap.size + 1 + 1 + 1) H3.out HF.out (Tch.refl _ _) (fun k hk => .inl hk) HW.out (by simp) (nil_own _ _).1 (nil_own _ _).2.1 t3 ((nil_own 0 w).2.2 _) ((nil_own 0 w).2.2 _))
end Go.Proofs.Ytafmhpcfjmannaa

import Derived.Test.YtgmoodcojpbbdaaGood
import Derived.Deep.RegionLaw
set_option linter.unusedVariables false
set_option linter.unusedSimpArgs false
namespace Go.Proofs.Ytgmoodcojpbbdaa
open Go.RowKit

/-- What something answers. -/
structure AnsM where
  e : Nat
  o : Outc
  is : Bool
  l : List St
  s : List (List UInt8)
def doM (ms : Ms) (d : OpD) : AnsM × Ms :=
  if d.K = 0 then (⟨(addM ms d.t).1, oz, false, [], []⟩, (addM ms d.t).2)
  else if d.K = 1 then (⟨0, oz, (tellM ms d.t d.o).1, [], []⟩, (tellM ms d.t d.o).2)
  else if d.K = 2 then (⟨0, (getM ms d.t).1, (getM ms d.t).2, [], []⟩, ms)
  else if d.K = 3 then (⟨0, (settleM ms d.t).1, (settleM ms d.t).2.1, [], []⟩, (settleM ms d.t).2.2)
  else if d.K = 4 then (⟨0, oz, false, (meetM d.th ms).2, []⟩, (meetM d.th ms).1)
  else if d.K = 5 then (⟨0, oz, false, [], (keepM d.th ms).1⟩, (keepM d.th ms).2)
  else (⟨0, oz, false, [], []⟩, ms)
def tvv (x : AnsM) (lv sv : Value) : Value := .agg #[.int .i64 x.e, .int .u8 x.o.k, .int .u64 x.o.a, .int .u64 x.o.b, .string ⟨x.o.c.toArray⟩, .bool x.is, lv, sv]
def BoxW (w : World) (b : Nat) (v0 v1 v2 v3 v4 v5 v6 v7 : Value) : Prop := w.heap[b]? = some (.cells #[v0, v1, v2, v3, v4, v5, v6, v7] 37 (0, 0))
section
variable {w w' W : World} {b g j : Nat} {v0 v1 v2 v3 v4 v5 v6 v7 : Value}
theorem BoxW.off {u : Value} (h : BoxW W b v0 v1 v2 v3 v4 v5 v6 v7) (hne : b ≠ g) : BoxW (W.setCell ⟨g, j, none⟩ u) b v0 v1 v2 v3 v4 v5 v6 v7 := (Below.heap_setCell W ⟨g, j, none⟩ u b hne).trans h
theorem BoxW.alloc (h : BoxW W b v0 v1 v2 v3 v4 v5 v6 v7) (o : Obj) : BoxW (W.alloc o) b v0 v1 v2 v3 v4 v5 v6 v7 := (heap_alloc_old W o (heap_lt h)).trans h
theorem BoxW.below (h : BoxW w b v0 v1 v2 v3 v4 v5 v6 v7) (hb : Below w.heap.size w w') : BoxW w' b v0 v1 v2 v3 v4 v5 v6 v7 := (hb.block b (heap_lt h)).trans h
theorem BoxW.tch {F : List Nat} (h : BoxW w b v0 v1 v2 v3 v4 v5 v6 v7) (ht : Tch F w w') (hb : b ∉ F) : BoxW w' b v0 v1 v2 v3 v4 v5 v6 v7 := (ht.block b (heap_lt h) hb).trans h
theorem BoxW.cells (h : BoxW w b v0 v1 v2 v3 v4 v5 v6 v7) : w.cell? ⟨b, 0, none⟩ = some v0 ∧ w.cell? ⟨b, 1, none⟩ = some v1 ∧ w.cell? ⟨b, 2, none⟩ = some v2 ∧ w.cell? ⟨b, 3, none⟩ = some v3 ∧ w.cell? ⟨b, 4, none⟩ = some v4 ∧ w.cell? ⟨b, 5, none⟩ = some v5 ∧ w.cell? ⟨b, 6, none⟩ = some v6 ∧ w.cell? ⟨b, 7, none⟩ = some v7 ∧ ∀ j, w.frozen? ⟨b, j, none⟩ = false := by
  have hc := fun j u hj => cell_of_heap (l := [v0, v1, v2, v3, v4, v5, v6, v7]) h j u hj
  exact ⟨hc 0 _ rfl, hc 1 _ rfl, hc 2 _ rfl, hc 3 _ rfl, hc 4 _ rfl, hc 5 _ rfl, hc 6 _ rfl, hc 7 _ rfl, fun j => froz_of_heap h j⟩
theorem BoxW.new (w : World) (v0 v1 v2 v3 v4 v5 v6 v7 : Value) : BoxW (w.alloc (.cells #[v0, v1, v2, v3, v4, v5, v6, v7] 37)) w.heap.size v0 v1 v2 v3 v4 v5 v6 v7 := heap_alloc_new w _
theorem BoxW.set8 (h : BoxW W b v0 v1 v2 v3 v4 v5 v6 v7) (u0 u1 u2 u3 u4 u5 u6 u7 : Value) : BoxW ((((((((W.setCell ⟨b, 0, none⟩ u0).setCell ⟨b, 1, none⟩ u1).setCell ⟨b, 2, none⟩ u2).setCell ⟨b, 3, none⟩ u3).setCell ⟨b, 4, none⟩ u4).setCell ⟨b, 5, none⟩ u5).setCell ⟨b, 6, none⟩ u6).setCell ⟨b, 7, none⟩ u7) b u0 u1 u2 u3 u4 u5 u6 u7 :=
  (heap_set_same (heap_set_same (heap_set_same (heap_set_same (heap_set_same (heap_set_same (heap_set_same (heap_set_same (l := [v0, v1, v2, v3, v4, v5, v6, v7]) h 0 u0) 1 u1) 2 u2) 3 u3) 4 u4) 5 u5) 6 u6) 7 u7)
theorem results_w {fn : Func} {t : Tmp} (h : fn.results = #[.cell t 37]) {tmps : Array Value} (ht : tmps.getD t undef = .pointer (some ⟨b, 0, none⟩)) (ho : BoxW W b v0 v1 v2 v3 v4 v5 v6 v7) :
    (results fn tmps).run Try.prog W = .ok (.agg #[v0, v1, v2, v3, v4, v5, v6, v7]) W := by
  obtain ⟨q0, q1, q2, q3, q4, q5, q6, q7, -⟩ := ho.cells
  have ha : (isAgg 37).run Try.prog W = .ok true W := by kernel_rfl
  have hs : (sizeOf 37).run Try.prog W = .ok 8 W := by kernel_rfl
  have hl : (loadVar 37 ⟨b, 0, none⟩).run Try.prog W = .ok (.agg #[v0, v1, v2, v3, v4, v5, v6, v7]) W := by
    simp [loadVar, Sem.run_bind, ha, hs, Result.andThen, loadCells, loadCellsFrom, load, Sem.run, plain_add, q0, q1, q2, q3, q4, q5, q6, q7]
  simp only [Array.getD_eq_getD_getElem?] at ht
  simp [results, h, ht, asAddr, Sem.run_bind, Sem.run, hl, Result.andThen]
end
theorem keepW {F : List Nat} {w w2 : World} {X : Obj} (hF : ∀ k ∈ F, k < w.heap.size) (ht : Tch F (((w.alloc X).alloc TZ).alloc TZ) w2) : BoxW w2 (w.heap.size + 1) (.int .i64 0) (.int .u8 0) (.int .u64 0) (.int .u64 0) (.string ⟨#[]⟩) (.bool false) (.slice none 0 0) (.slice none 0 0) ∧ BoxW w2 (w.heap.size + 1 + 1) (.int .i64 0) (.int .u8 0) (.int .u64 0) (.int .u64 0) (.string ⟨#[]⟩) (.bool false) (.slice none 0 0) (.slice none 0 0) ∧ w.heap.size + 1 + 1 < w2.heap.size := by
  have hsz := ht.size
  simp at hsz
  refine ⟨?_, ?_, by omega⟩
  · unfold BoxW
    rw [ht.block _ (by simp <;> omega) (fun hk => by have := hF _ hk; omega), heap_alloc_old _ _ (by simp)]
    have := heap_alloc_new (w.alloc X) TZ
    rwa [World.size_alloc] at this
  · unfold BoxW
    rw [ht.block _ (by simp <;> omega) (fun hk => by have := hF _ hk; omega)]
    have := heap_alloc_new ((w.alloc X).alloc TZ) TZ
    rwa [World.size_alloc, World.size_alloc] at this
def OwnS (w : World) (base : Nat) (v : Value) (l : List St) : Prop := OwnC 68 6 (fun _ => True) w base v l.length (scs l)
def OwnT (w : World) (base : Nat) (v : Value) (l : List (List UInt8)) : Prop := OwnC 9 1 (fun _ => True) w base v l.length (l.map str)
/-- What is to be known behind something done. -/
def DmP (x : AnsM) (w0 w : World) (a : Nat) (F : List Nat) (ms' : Ms) (e : Ending) (w' : World) : Prop :=
  ∃ F' lv sv, e = .returned (tvv x lv sv) ∧ OwnS w' w.heap.size lv x.l ∧ OwnT w' w.heap.size sv x.s ∧ MkF w0 w' a F' ms' ∧ Tch F w w' ∧ (∀ k ∈ F', k ∈ F ∨ w.heap.size ≤ k)
theorem dm_fin {w0 w w2 w' : World} {a : Nat} {F F' : List Nat} {ms' : Ms} {x : AnsM} {lv sv v : Value} {X : Obj} (hv : v = tvv x lv sv)
    (hm : MkF w0 w2 a F' ms') (hF : ∀ k ∈ F, k < w.heap.size) (t2 : Tch F (((w.alloc X).alloc TZ).alloc TZ) w2) (f2 : ∀ k ∈ F', k ∈ F ∨ (((w.alloc X).alloc TZ).alloc TZ).heap.size ≤ k) (h0 : w0.heap.size ≤ w.heap.size)
    (hl : OwnS w' w.heap.size lv x.l) (hk : OwnT w' w.heap.size sv x.s) (t3 : Tch [w.heap.size + 1, w.heap.size + 1 + 1] w2 w') :
    DmP x w0 w a F ms' (.returned v) w' := by
  subst hv
  have hs : (((w.alloc X).alloc TZ).alloc TZ).heap.size = w.heap.size + 1 + 1 + 1 := by simp
  have t1 : Tch F w (((w.alloc X).alloc TZ).alloc TZ) := (((Tch.refl F w).alloc _).alloc _).alloc _
  have hne : ∀ k ∈ F', k ∉ [w.heap.size + 1, w.heap.size + 1 + 1] := fun k hk hm2 => by
    simp at hm2
    rcases f2 k hk with h | h
    · have := hF k h; omega
    · omega
  refine ⟨F', lv, sv, rfl, hl, hk, ⟨hm.old.trans (t3.below hm.old.size (fun k hk => by simp at hk; omega)), hm.is.tch t3 hne, hm.hi⟩, (t1.trans_ t2).trans t3 (fun k hk => by simp at hk; right; omega), fun k hk => ?_⟩
  rcases f2 k hk with h | h
  · exact .inl h
  · right; omega
theorem nil_ownM (b : Nat) (w : World) : OwnS w b (.slice none 0 0) [] ∧ OwnT w b (.slice none 0 0) [] := ⟨OwnC.nil_, OwnC.nil_⟩

theorem stw_one (s : St) : ∀ u ∈ sc s, u.oneCell' = true := sc_one s
theorem Try.info_rstep : (Try.prog.info? 68).map (fun i => (i.zero, i.size, i.bytes)) = some (some (.agg #[.string ⟨#[]⟩, .int .i64 0, .int .u8 0, .int .u64 0, .int .u64 0, .string ⟨#[]⟩]), 6, 64) := by kernel_rfl
theorem dm_app {w2 wr X w' : World} {b j c : Nat} {B : Option Addr} {L : List St} {q : St} {v' v0 v1 v2 v3 v4 v5 v7 : Value} (hbx : BoxW wr b v0 v1 v2 v3 v4 v5 (.slice B j c) v7) (ht : Tch [b] w2 wr) (ho : OwnC 68 6 (fun _ => True) wr w2.heap.size (.slice B j c) j (scs L))
    (gw : X.grownBy w' (Value.slice B j c).ownBlock) (ow : OwnC 68 6 (fun _ => True) w' w2.heap.size v' (j + 1) (scs L ++ sc q)) (hb : b < w2.heap.size) (tX : Tch [] wr X) :
    w'.cell? ⟨b, 6, none⟩ = some (.slice B j c) ∧ w'.frozen? ⟨b, 6, none⟩ = false ∧ Hid (BoxW (w'.setCell ⟨b, 6, none⟩ v') b v0 v1 v2 v3 v4 v5 v' v7 ∧ OwnC 68 6 (fun _ => True) (w'.setCell ⟨b, 6, none⟩ v') w2.heap.size v' (j + 1) (scs L ++ sc q) ∧ Tch [b] w2 (w'.setCell ⟨b, 6, none⟩ v')) := by
  have hbr := heap_lt hbx
  have hrow : ∀ k, (Value.slice B j c).ownBlock = some k → w2.heap.size ≤ k := fun k hk => (ho.lt k hk).1
  have hbw : BoxW w' b v0 v1 v2 v3 v4 v5 (.slice B j c) v7 := by
    unfold BoxW
    rw [gw.block b (Nat.lt_of_lt_of_le hbr tX.size) (fun e => by have := hrow b e.symm; omega), tX.block b hbr (by simp)]
    exact hbx
  have t1 : Tch [b] w2 w' := (ht.trans tX (fun k hk => by cases hk)).grown gw (fun k hk => .inr (hrow k hk))
  refine ⟨hbw.cells.2.2.2.2.2.2.1, hbw.cells.2.2.2.2.2.2.2.2 6, Lib.hid ⟨?_, ow.keep fun k hk => Below.heap_setCell _ _ _ _ (fun e => by have := (ow.lt k hk).1; have e' : k = b := e; omega), t1.setCell _ (.inl (by simp))⟩⟩
  exact heap_set_same (l := [v0, v1, v2, v3, v4, v5, .slice B j c, v7]) hbw 6 v'

set_option maxRecDepth 100000 in
set_option maxHeartbeats 4000000 in
theorem doesM_calls {w0 w : World} {a : Nat} {F : List Nat} {ms ms' : Ms} {N : Nat} {K : Int} {t : List UInt8} {o : Outc} {A : Option Addr} {n c : Nat} {th : Ms} {x : AnsM} (h : MkF w0 w a F ms) (hb : ms.length ≤ 1000000) (hr : RdC 5 w A n c (mcs th))  (hn : n ≤ 100) (r : doM ms ⟨K, t, o, A, n, c, th⟩ = (x, ms')) :
    Calls Try.prog 15 #[.pointer (some ⟨a, 0, none⟩), .agg #[.int .i64 K, .string ⟨t.toArray⟩, .int .u8 o.k, .int .u64 o.a, .int .u64 o.b, .string ⟨o.c.toArray⟩, .slice A n c]] w (DmP x w0 w a F ms') := by
  have H := Lib.hid h
  have HBB := Lib.hid hb
  have HR := Lib.hid hr
  have hlc := hr.2.1
  have hmx := hr.2.2.1
  have H3 := Lib.hid (show MkF w0 (((w.alloc (.cells #[.int .i64 K, .string ⟨t.toArray⟩, .int .u8 o.k, .int .u64 o.a, .int .u64 o.b, .string ⟨o.c.toArray⟩, .slice A n c] 41)).alloc TZ).alloc TZ) a F ms from
    h.below (((below_alloc w _).trans ((below_alloc _ _).mono (by simp))).trans ((below_alloc _ _).mono (by simp <;> omega))))
  have HF := Lib.hid h.is.lts
  have HW := Lib.hid h.old.size
  have R := Lib.hid r
  clear h r hb hr
  by_cases k0 : K = 0
  · subst k0
    obtain ⟨n', e2, hp⟩ : ∃ n e2, addM ms t = (n, e2) := ⟨_, _, rfl⟩
    have HP := Lib.hid hp
    have r := R.out
    simp only [doM, if_true, hp] at r
    cases r
    clear hp
    go_enter Try.func15, Try.ntmps15
    go_wp2_with fail
    refine (mf_add t H3.out HP.out).mono ?_
    rintro e w2 ⟨F2, rfl, m2, t2, f2⟩
    obtain ⟨k1, k2, hz⟩ := keepW HF.out t2
    obtain ⟨p0, p1, p2, p3, p4, p5, p6, p7, p8⟩ := k1.cells
    obtain ⟨q0, q1, q2, q3, q4, q5, q6, q7, q8⟩ := k2.cells
    have hz1 : w.heap.size + 1 < w2.heap.size := by omega
    have K1 := Lib.hid k1
    have M2 := Lib.hid m2
    have T2 := Lib.hid t2
    have F2' := Lib.hid f2
    clear m2 t2 f2 k1 k2
    go_wp2_with fail
    refine forgetX (fun W => BoxW W (w.heap.size + 1) (.int .i64 n') (.int .u8 0) (.int .u64 0) (.int .u64 0) (.string ⟨#[]⟩) (.bool false) (.slice none 0 0) (.slice none 0 0) ∧ Tch [w.heap.size + 1, w.heap.size + 1 + 1] w2 W) ⟨?_, ?_⟩ ?_
    · have hne : w.heap.size + 1 ≠ w.heap.size + 1 + 1 := by omega
      with_reducible exact BoxW.set8 (BoxW.off K1.out hne) _ _ _ _ _ _ _ _
    · repeat (first | with_reducible exact Tch.refl _ _ | with_reducible refine Tch.setCell ?_ _ (by simp) | with_reducible refine Tch.alloc ?_ _)
    rintro W3 ⟨hbx, t3⟩
    exact bodyPost_ret (results_w rfl rfl hbx) rfl (dm_fin (lv := .slice none 0 0) (sv := .slice none 0 0) (by simp [tvv, oz]) M2.out HF.out T2.out F2'.out HW.out (nil_ownM _ _).1 (nil_ownM _ _).2 t3)
  have n0 : (K == 0) = false := by simp [k0]
  by_cases k1 : K = 1
  · subst k1
    obtain ⟨b', e2, hp⟩ : ∃ n e2, tellM ms t o = (n, e2) := ⟨_, _, rfl⟩
    have HP := Lib.hid hp
    have r := R.out
    simp only [doM, if_neg k0, if_true, hp] at r
    cases r
    clear hp
    go_enter Try.func15, Try.ntmps15
    go_wp2_with fail
    refine (mf_tell t o H3.out HP.out).mono ?_
    rintro e w2 ⟨F2, rfl, m2, t2, f2⟩
    obtain ⟨k1, k2, hz⟩ := keepW HF.out t2
    obtain ⟨p0, p1, p2, p3, p4, p5, p6, p7, p8⟩ := k1.cells
    obtain ⟨q0, q1, q2, q3, q4, q5, q6, q7, q8⟩ := k2.cells
    have hz1 : w.heap.size + 1 < w2.heap.size := by omega
    have K1 := Lib.hid k1
    have M2 := Lib.hid m2
    have T2 := Lib.hid t2
    have F2' := Lib.hid f2
    clear m2 t2 f2 k1 k2
    go_wp2_with fail
    refine forgetX (fun W => BoxW W (w.heap.size + 1) (.int .i64 0) (.int .u8 0) (.int .u64 0) (.int .u64 0) (.string ⟨#[]⟩) (.bool b') (.slice none 0 0) (.slice none 0 0) ∧ Tch [w.heap.size + 1, w.heap.size + 1 + 1] w2 W) ⟨?_, ?_⟩ ?_
    · have hne : w.heap.size + 1 ≠ w.heap.size + 1 + 1 := by omega
      with_reducible exact BoxW.set8 (BoxW.off K1.out hne) _ _ _ _ _ _ _ _
    · repeat (first | with_reducible exact Tch.refl _ _ | with_reducible refine Tch.setCell ?_ _ (by simp) | with_reducible refine Tch.alloc ?_ _)
    rintro W3 ⟨hbx, t3⟩
    exact bodyPost_ret (results_w rfl rfl hbx) rfl (dm_fin (lv := .slice none 0 0) (sv := .slice none 0 0) (by simp [tvv, oz]) M2.out HF.out T2.out F2'.out HW.out (nil_ownM _ _).1 (nil_ownM _ _).2 t3)
  have n1 : (K == 1) = false := by simp [k1]
  by_cases k2 : K = 2
  · subst k2
    obtain ⟨o', b', hp⟩ : ∃ o' b', getM ms t = (o', b') := ⟨_, _, rfl⟩
    have HP := Lib.hid hp
    have r := R.out
    simp only [doM, if_neg k0, if_neg k1, if_true, hp] at r
    cases r
    clear hp
    go_enter Try.func15, Try.ntmps15
    go_wp2_with fail
    refine (mf_get t H3.out HP.out).mono ?_
    rintro e w2 ⟨rfl, m2, b2⟩
    have t2 := Tch.of_below F b2
    have f2 : ∀ k ∈ F, k ∈ F ∨ (((w.alloc (.cells #[.int .i64 2, .string ⟨t.toArray⟩, .int .u8 o.k, .int .u64 o.a, .int .u64 o.b, .string ⟨o.c.toArray⟩, .slice A n c] 41)).alloc TZ).alloc TZ).heap.size ≤ k := fun k hk => .inl hk
    clear b2
    obtain ⟨k1, k2, hz⟩ := keepW HF.out t2
    obtain ⟨p0, p1, p2, p3, p4, p5, p6, p7, p8⟩ := k1.cells
    obtain ⟨q0, q1, q2, q3, q4, q5, q6, q7, q8⟩ := k2.cells
    have hz1 : w.heap.size + 1 < w2.heap.size := by omega
    have K1 := Lib.hid k1
    have M2 := Lib.hid m2
    have T2 := Lib.hid t2
    have F2' := Lib.hid f2
    clear m2 t2 f2 k1 k2
    go_wp2_with fail
    refine forgetX (fun W => BoxW W (w.heap.size + 1) (.int .i64 0) (.int .u8 o'.k) (.int .u64 o'.a) (.int .u64 o'.b) (.string ⟨o'.c.toArray⟩) (.bool b') (.slice none 0 0) (.slice none 0 0) ∧ Tch [w.heap.size + 1, w.heap.size + 1 + 1] w2 W) ⟨?_, ?_⟩ ?_
    · have hne : w.heap.size + 1 ≠ w.heap.size + 1 + 1 := by omega
      with_reducible exact BoxW.set8 (BoxW.off (BoxW.off (BoxW.off (BoxW.off (BoxW.off K1.out hne) hne) hne) hne) hne) _ _ _ _ _ _ _ _
    · repeat (first | with_reducible exact Tch.refl _ _ | with_reducible refine Tch.setCell ?_ _ (by simp) | with_reducible refine Tch.alloc ?_ _)
    rintro W3 ⟨hbx, t3⟩
    exact bodyPost_ret (results_w rfl rfl hbx) rfl (dm_fin (lv := .slice none 0 0) (sv := .slice none 0 0) (by simp [tvv, oz]) M2.out HF.out T2.out F2'.out HW.out (nil_ownM _ _).1 (nil_ownM _ _).2 t3)
  have n2 : (K == 2) = false := by simp [k2]
  by_cases k3 : K = 3
  · subst k3
    obtain ⟨o', b', e2, hp⟩ : ∃ o' b' e2, settleM ms t = (o', b', e2) := ⟨_, _, _, rfl⟩
    have HP := Lib.hid hp
    have r := R.out
    simp only [doM, if_neg k0, if_neg k1, if_neg k2, if_true, hp] at r
    cases r
    clear hp
    go_enter Try.func15, Try.ntmps15
    go_wp2_with fail
    refine (mf_settle t H3.out HP.out).mono ?_
    rintro e w2 ⟨F2, rfl, m2, t2, f2⟩
    obtain ⟨k1, k2, hz⟩ := keepW HF.out t2
    obtain ⟨p0, p1, p2, p3, p4, p5, p6, p7, p8⟩ := k1.cells
    obtain ⟨q0, q1, q2, q3, q4, q5, q6, q7, q8⟩ := k2.cells
    have hz1 : w.heap.size + 1 < w2.heap.size := by omega
    have K1 := Lib.hid k1
    have M2 := Lib.hid m2
    have T2 := Lib.hid t2
    have F2' := Lib.hid f2
    clear m2 t2 f2 k1 k2
    go_wp2_with fail
    refine forgetX (fun W => BoxW W (w.heap.size + 1) (.int .i64 0) (.int .u8 o'.k) (.int .u64 o'.a) (.int .u64 o'.b) (.string ⟨o'.c.toArray⟩) (.bool b') (.slice none 0 0) (.slice none 0 0) ∧ Tch [w.heap.size + 1, w.heap.size + 1 + 1] w2 W) ⟨?_, ?_⟩ ?_
    · have hne : w.heap.size + 1 ≠ w.heap.size + 1 + 1 := by omega
      with_reducible exact BoxW.set8 (BoxW.off (BoxW.off (BoxW.off (BoxW.off (BoxW.off K1.out hne) hne) hne) hne) hne) _ _ _ _ _ _ _ _
    · repeat (first | with_reducible exact Tch.refl _ _ | with_reducible refine Tch.setCell ?_ _ (by simp) | with_reducible refine Tch.alloc ?_ _)
    rintro W3 ⟨hbx, t3⟩
    exact bodyPost_ret (results_w rfl rfl hbx) rfl (dm_fin (lv := .slice none 0 0) (sv := .slice none 0 0) (by simp [tvv, oz]) M2.out HF.out T2.out F2'.out HW.out (nil_ownM _ _).1 (nil_ownM _ _).2 t3)
  have n3 : (K == 3) = false := by simp [k3]
  obtain ⟨i0, hi, hz0, hz1, hz2⟩ := info_parts Try.info_mark
  obtain ⟨j0, hj_, hy0, hy1, hy2⟩ := info_parts Try.info_rstep
  by_cases k4 : K = 4
  · subst k4
    obtain ⟨mf, st, hp⟩ : ∃ mf st, meetM th ms = (mf, st) := ⟨_, _, rfl⟩
    have hstl : st.length = ms.length := by rw [show st = (meetM th ms).2 by rw [hp]]; simp [meetM]
    have HP := Lib.hid hp
    have r := R.out
    simp only [doM, if_neg k0, if_neg k1, if_neg k2, if_neg k3, if_true, hp] at r
    cases r
    have HSL := Lib.hid hstl
    clear hp hstl
    go_enter Try.func15, Try.ntmps15
    go_wp2_with (at_builtin; refine wpList_appC _ rfl _ _ _ rfl (w.heap.size + 1 + 1 + 1) i0 _ 56 Try.underlying39 hi hz0 hz1 hz2 rfl (by decide) (fun _ _ => trivial) (.slice (some ⟨w.heap.size + 1 + 1 + 1, 0, none⟩) 0 0) 0 [] rfl ?own A n c (mcs th) rfl ?rd ?hb ?h63 ?hbase ?_)
    case own =>
      refine OwnC.box0 ?_ ?_
      · simp
      · omega
    case rd => exact HR.out.below (by repeat (first | with_reducible exact Below.refl _ _ | (with_reducible refine Below.alloc ?_ (by first | (simp; done) | (simp; omega)) _)))
    case hb => omega
    case h63 => omega
    case hbase => simp
    intro v2 w2 o2 g2 y1 y2
    clear y1 y2
    have bW2 : Below (w.heap.size + 1 + 1 + 1) (((w.alloc (.cells #[.int .i64 4, .string ⟨t.toArray⟩, .int .u8 o.k, .int .u64 o.a, .int .u64 o.b, .string ⟨o.c.toArray⟩, .slice A n c] 41)).alloc TZ).alloc TZ) w2 := Below.grown ((Below.refl _ _).alloc (by simp) _) g2 (by simp) (fun k hk => by simp [Value.ownBlock] at hk; omega)
    have T1 := Tch.of_below F (show Below (((w.alloc (.cells #[.int .i64 4, .string ⟨t.toArray⟩, .int .u8 o.k, .int .u64 o.a, .int .u64 o.b, .string ⟨o.c.toArray⟩, .slice A n c] 41)).alloc TZ).alloc TZ).heap.size _ w2 from by simpa using bW2)
    have HB1 := Lib.hid (show Below (((w.alloc (.cells #[.int .i64 4, .string ⟨t.toArray⟩, .int .u8 o.k, .int .u64 o.a, .int .u64 o.b, .string ⟨o.c.toArray⟩, .slice A n c] 41)).alloc TZ).alloc TZ).heap.size _ w2 from by simpa using bW2)
    obtain ⟨A2, c2, rfl, r2⟩ := o2.rd
    have M1 := Lib.hid (H3.out.below HB1.out)
    have R1 := Lib.hid (show RdC 5 w2 A2 n c2 (mcs th) from by simpa using r2)
    have A1 := Lib.hid (show ∀ ad, A2 = some ad → ad.block ∉ F from fun ad had hF => by have h1 := (o2.lt ad.block (by rw [had]; simp [Value.ownBlock])).1; have := HF.out _ hF; omega)
    have HT1 := Lib.hid T1
    obtain ⟨k1, k2, hz⟩ := keepW HF.out T1
    obtain ⟨p0, p1, p2, p3, p4, p5, p6, p7, p8⟩ := k1.cells
    obtain ⟨q0, q1, q2, q3, q4, q5, q6, q7, q8⟩ := k2.cells
    have K1a := Lib.hid k1
    have hz1a : w.heap.size + 1 < w2.heap.size := by omega
    clear o2 g2 bW2 T1 r2 k1 k2
    go_wp2_with fail
    refine (mf_meet A2 n c2 M1.out HBB.out R1.out A1.out HP.out).mono ?_
    rintro e w3 ⟨v3, rfl, o3, m3, t3⟩
    have T2 := Lib.hid (HT1.out.trans_ t3)
    obtain ⟨k1, k2, hz⟩ := keepW HF.out T2.out
    have K1 := Lib.hid k1
    have K2 := Lib.hid k2
    have M2 := Lib.hid m3
    obtain ⟨A3, c3, rfl, r3⟩ := o3.rd
    have hc1 := r3.2.1
    have hc2 := r3.2.2.1
    have F2' := Lib.hid (show ∀ k ∈ F, k ∈ F ∨ (((w.alloc (.cells #[.int .i64 4, .string ⟨t.toArray⟩, .int .u8 o.k, .int .u64 o.a, .int .u64 o.b, .string ⟨o.c.toArray⟩, .slice A n c] 41)).alloc TZ).alloc TZ).heap.size ≤ k from fun k hk => .inl hk)
    have HOF := Lib.hid (show ∀ ad, A3 = some ad → w2.heap.size ≤ ad.block from fun ad had => (o3.lt ad.block (by rw [had]; rfl)).1)
    obtain ⟨N, hN⟩ : ∃ N, st.length = N := ⟨_, rfl⟩
    have hN6 : N ≤ 1000000 := by rw [← hN, HSL.out]; exact HBB.out
    rw [hN] at r3 hc1 ⊢
    have R3 := Lib.hid r3
    have HN := Lib.hid hN
    have hz23 : w.heap.size + 1 + 1 < w2.heap.size := hz1a |> fun _ => by have := HB1.out.size; simp at this; omega
    clear o3 m3 t3 r3 hN k1 k2 p0 p1 p2 p3 p4 p5 p6 p7 p8 q0 q1 q2 q3 q4 q5 q6 q7 q8
    go_wp2_with fail
    go_loopw [7] (fun u wr => ∃ (j : Nat) (B : Option Addr) (c : Nat), j ≤ N ∧ u = .int .i64 j ∧ BoxW wr (w.heap.size + 1 + 1) (.int .i64 0) (.int .u8 0) (.int .u64 0) (.int .u64 0) (.string ⟨#[]⟩) (.bool false) (.slice B j c) (.slice none 0 0) ∧
      OwnC 68 6 (fun _ => True) wr w3.heap.size (.slice B j c) j (scs (st.take j)) ∧ Tch [w.heap.size + 1 + 1] w3 wr) (fun u _ => N - (intOf u).toNat)
    case atStart => exact ⟨0, none, 0, by omega, rfl, K2.out, OwnC.nil_, Tch.refl _ _⟩
    case round =>
      obtain ⟨j, B, c, hj, rfl, hbx, ho, ht⟩ := hrel
      have HBX := Lib.hid hbx
      have HO := Lib.hid ho
      have HT := Lib.hid ht
      have hrd := ho.rd
      obtain ⟨A', c', e', r'⟩ := hrd
      cases e'
      have hj1 := r'.2.1
      have hj2 := r'.2.2.1
      have hszr := ht.size
      obtain ⟨q0, q1, q2, q3, q4, q5, q6, q7, q8⟩ := hbx.cells
      have hz3 : w.heap.size + 1 + 1 < wr.heap.size := by omega
      clear hbx ho ht r'
      by_cases hjn : j < N
      · have hjn' : (j : Int) < N := by omega
        have hjl : j < st.length := by rw [HN.out]; exact hjn
        obtain ⟨b3, o3, e, x0, x1, x2, x3, x4, x5⟩ := step_at (R3.out.tch HT.out (fun ad had hF => by have := HOF.out ad had; simp at hF; omega)) j hjl
        subst e
        have hb3 : b3 < wr.heap.size := cell_lt x0
        have hts : st.take (j + 1) = st.take j ++ [st[j]] := List.take_succ_eq_append_getElem hjl
        obtain ⟨q, hgj⟩ : ∃ q, st[j] = q := ⟨_, rfl⟩
        rw [hgj] at x0 x1 x2 x3 x4 x5 hts
        have HTS := Lib.hid hts
        clear hts hgj
        go_wp2_with fail
        go_region_law (refine wp_appC _ (.tmp 63) (.tmp 80) 34 rfl w3.heap.size j0 _ 64 Try.underlying34 hj_ hy0 hy1 hy2 rfl (by decide) (fun _ _ => trivial) (.slice B j c) j (scs (st.take j)) rfl ?_ (some ⟨wr.heap.size, 0, none⟩) 1 1 (sc q) rfl ?_ ?_ ?_ ?_ ?_; (· repeat (first | exact HO.out | refine OwnC.alloc ?_ _ | refine OwnC.drew ?_)); (· first | exact rdc_box (sc q) 1 6 rfl (sc_one _) (by decide) | exact (rdc_box (sc q) 1 6 rfl (sc_one _) (by decide)).below (below_drew _)); (· omega); (· omega); (· simp; omega); (intro v' w' ow gw y1 y2; (try clear y1); obtain ⟨k0, k1, HFIN⟩ := dm_app HBX.out HT.out HO.out gw ow (by omega) (by repeat (first | exact Tch.refl _ _ | refine Tch.alloc ?_ _ | refine Tch.drew ?_)); obtain ⟨A5, c5, rfl⟩ := ow.slice; clear ow gw y2))
        all_goals
          go_wp2_with fail
          obtain ⟨f1, f2, f3⟩ := HFIN.out
          exact ⟨⟨j + 1, A5, c5, by omega, by go_num, f1, by rw [HTS.out, scs_snoc]; exact f2, f3⟩, by simp [intOf]; omega⟩
      · obtain rfl : j = N := by omega
        have HOK := Lib.hid (show OwnS wr w3.heap.size (.slice B j c) st by
          have := HO.out
          rw [← HN.out, List.take_length] at this
          unfold OwnS
          rw [← HN.out]
          exact this)
        have K1' := Lib.hid (K1.out.tch HT.out (by simp))
        obtain ⟨p0, p1, p2, p3, p4, p5, p6, p7, p8⟩ := K1'.out.cells
        have hz4 : w.heap.size + 1 < wr.heap.size := by omega
        clear HO
        go_wp2_with fail
        refine forgetX (fun W => BoxW W (w.heap.size + 1) (.int .i64 0) (.int .u8 0) (.int .u64 0) (.int .u64 0) (.string ⟨#[]⟩) (.bool false) (.slice B j c) (.slice none 0 0) ∧ Tch [w.heap.size + 1, w.heap.size + 1 + 1] wr W) ⟨?_, ?_⟩ ?_
        · with_reducible exact BoxW.set8 K1'.out _ _ _ _ _ _ _ _
        · repeat (first | with_reducible exact Tch.refl _ _ | with_reducible refine Tch.setCell ?_ _ (by simp))
        rintro W3 ⟨hbx, t3⟩
        have t4 : Tch [w.heap.size + 1, w.heap.size + 1 + 1] w3 W3 := (HT.out.mono (G := [w.heap.size + 1, w.heap.size + 1 + 1]) (by simp)).trans_ t3
        refine bodyPost_ret (results_w rfl rfl hbx) rfl (dm_fin (lv := .slice B j c) (sv := .slice none 0 0) (by simp [tvv, oz]) M2.out HF.out T2.out F2'.out HW.out (OwnC.base ((HOK.out).tch t3 (fun k hk hm2 => by have := (OwnC.lt HOK.out k hk).1; simp at hm2; omega)) (by omega)) OwnC.nil_ t4)
  have n4 : (K == 4) = false := by simp [k4]
  by_cases k5 : K = 5
  · subst k5
    obtain ⟨gl, mf, hp⟩ : ∃ gl mf, keepM th ms = (gl, mf) := ⟨_, _, rfl⟩
    have HP := Lib.hid hp
    have r := R.out
    simp only [doM, if_neg k0, if_neg k1, if_neg k2, if_neg k3, if_neg k4, if_true, hp] at r
    cases r
    clear hp
    go_enter Try.func15, Try.ntmps15
    go_wp2_with (at_builtin; refine wpList_appC _ rfl _ _ _ rfl (w.heap.size + 1 + 1 + 1) i0 _ 56 Try.underlying39 hi hz0 hz1 hz2 rfl (by decide) (fun _ _ => trivial) (.slice (some ⟨w.heap.size + 1 + 1 + 1, 0, none⟩) 0 0) 0 [] rfl ?own A n c (mcs th) rfl ?rd ?hb ?h63 ?hbase ?_)
    case own =>
      refine OwnC.box0 ?_ ?_
      · simp
      · omega
    case rd => exact HR.out.below (by repeat (first | with_reducible exact Below.refl _ _ | (with_reducible refine Below.alloc ?_ (by first | (simp; done) | (simp; omega)) _)))
    case hb => omega
    case h63 => omega
    case hbase => simp
    intro v2 w2 o2 g2 y1 y2
    clear y1 y2
    have bW2 : Below (w.heap.size + 1 + 1 + 1) (((w.alloc (.cells #[.int .i64 5, .string ⟨t.toArray⟩, .int .u8 o.k, .int .u64 o.a, .int .u64 o.b, .string ⟨o.c.toArray⟩, .slice A n c] 41)).alloc TZ).alloc TZ) w2 := Below.grown ((Below.refl _ _).alloc (by simp) _) g2 (by simp) (fun k hk => by simp [Value.ownBlock] at hk; omega)
    have T1 := Tch.of_below F (show Below (((w.alloc (.cells #[.int .i64 5, .string ⟨t.toArray⟩, .int .u8 o.k, .int .u64 o.a, .int .u64 o.b, .string ⟨o.c.toArray⟩, .slice A n c] 41)).alloc TZ).alloc TZ).heap.size _ w2 from by simpa using bW2)
    have HB1 := Lib.hid (show Below (((w.alloc (.cells #[.int .i64 5, .string ⟨t.toArray⟩, .int .u8 o.k, .int .u64 o.a, .int .u64 o.b, .string ⟨o.c.toArray⟩, .slice A n c] 41)).alloc TZ).alloc TZ).heap.size _ w2 from by simpa using bW2)
    obtain ⟨A2, c2, rfl, r2⟩ := o2.rd
    have M1 := Lib.hid (H3.out.below HB1.out)
    have R1 := Lib.hid (show RdC 5 w2 A2 n c2 (mcs th) from by simpa using r2)
    have A1 := Lib.hid (show ∀ ad, A2 = some ad → ad.block ∉ F from fun ad had hF => by have h1 := (o2.lt ad.block (by rw [had]; simp [Value.ownBlock])).1; have := HF.out _ hF; omega)
    have HT1 := Lib.hid T1
    obtain ⟨k1, k2, hz⟩ := keepW HF.out T1
    obtain ⟨p0, p1, p2, p3, p4, p5, p6, p7, p8⟩ := k1.cells
    obtain ⟨q0, q1, q2, q3, q4, q5, q6, q7, q8⟩ := k2.cells
    have K1a := Lib.hid k1
    have hz1a : w.heap.size + 1 < w2.heap.size := by omega
    clear o2 g2 bW2 T1 r2 k1 k2
    go_wp2_with fail
    refine (mf_keep A2 n c2 M1.out HBB.out R1.out A1.out HP.out).mono ?_
    rintro e w3 ⟨v3, F3, rfl, o3, m3, t3, f3, of3⟩
    have T2 := Lib.hid (HT1.out.trans_ t3)
    obtain ⟨k1, k2, hz⟩ := keepW HF.out T2.out
    clear p0 p1 p2 p3 p4 p5 p6 p7 p8 q0 q1 q2 q3 q4 q5 q6 q7 q8
    obtain ⟨p0, p1, p2, p3, p4, p5, p6, p7, p8⟩ := k1.cells
    obtain ⟨q0, q1, q2, q3, q4, q5, q6, q7, q8⟩ := k2.cells
    have hz1b : w.heap.size + 1 < w3.heap.size := by omega
    have K1 := Lib.hid k1
    have M2 := Lib.hid m3
    obtain ⟨A3, c3, rfl⟩ := o3.slice
    have O3 := Lib.hid o3
    have hb21 := HB1.out.size
    simp at hb21
    have F2' := Lib.hid (show ∀ k ∈ F3, k ∈ F ∨ (((w.alloc (.cells #[.int .i64 5, .string ⟨t.toArray⟩, .int .u8 o.k, .int .u64 o.a, .int .u64 o.b, .string ⟨o.c.toArray⟩, .slice A n c] 41)).alloc TZ).alloc TZ).heap.size ≤ k from fun k hk => by
      rcases f3 k hk with h | h
      · exact .inl h
      · right; simp; omega)
    clear o3 m3 t3 f3 of3 k1 k2
    go_wp2_with fail
    refine forgetX (fun W => BoxW W (w.heap.size + 1) (.int .i64 0) (.int .u8 0) (.int .u64 0) (.int .u64 0) (.string ⟨#[]⟩) (.bool false) (.slice none 0 0) (.slice A3 gl.length c3) ∧ Tch [w.heap.size + 1, w.heap.size + 1 + 1] w3 W) ⟨?_, ?_⟩ ?_
    · have hne : w.heap.size + 1 ≠ w.heap.size + 1 + 1 := by omega
      with_reducible exact BoxW.set8 (BoxW.off K1.out hne) _ _ _ _ _ _ _ _
    · repeat (first | with_reducible exact Tch.refl _ _ | with_reducible refine Tch.setCell ?_ _ (by simp) | with_reducible refine Tch.alloc ?_ _)
    rintro W3 ⟨hbx, t3⟩
    exact bodyPost_ret (results_w rfl rfl hbx) rfl (dm_fin (lv := .slice none 0 0) (sv := .slice A3 gl.length c3) (by simp [tvv, oz]) M2.out HF.out T2.out F2'.out HW.out OwnC.nil_ (OwnC.base ((O3.out).tch t3 (fun k hk hm2 => by have := (OwnC.lt O3.out k hk).1; simp at hm2; omega)) (by omega)) t3)
  have n5 : (K == 5) = false := by simp [k5]
  have r := R.out
  simp only [doM, if_neg k0, if_neg k1, if_neg k2, if_neg k3, if_neg k4, if_neg k5] at r
  cases r
  obtain ⟨k1', k2', hz⟩ := keepW (F := F) (X := .cells #[.int .i64 K, .string ⟨t.toArray⟩, .int .u8 o.k, .int .u64 o.a, .int .u64 o.b, .string ⟨o.c.toArray⟩, .slice A n c] 41) HF.out (Tch.refl _ _)
  have K1 := Lib.hid k1'
  clear k1' k2' hz
  go_enter Try.func15, Try.ntmps15
  go_wp2_with fail
  refine forgetX (fun W => BoxW W (w.heap.size + 1) (.int .i64 0) (.int .u8 0) (.int .u64 0) (.int .u64 0) (.string ⟨#[]⟩) (.bool false) (.slice none 0 0) (.slice none 0 0) ∧ Tch [w.heap.size + 1, w.heap.size + 1 + 1] (((w.alloc (.cells #[.int .i64 K, .string ⟨t.toArray⟩, .int .u8 o.k, .int .u64 o.a, .int .u64 o.b, .string ⟨o.c.toArray⟩, .slice A n c] 41)).alloc TZ).alloc TZ) W) ⟨?_, ?_⟩ ?_
  · exact K1.out
  · exact Tch.refl _ _
  rintro W3 ⟨hbx, t3⟩
  exact bodyPost_ret (results_w rfl rfl hbx) rfl (dm_fin (lv := .slice none 0 0) (sv := .slice none 0 0) (by simp [tvv, oz]) H3.out HF.out (Tch.refl _ _) (fun k hk => .inl hk) HW.out OwnC.nil_ OwnC.nil_ t3)
end Go.Proofs.Ytgmoodcojpbbdaa

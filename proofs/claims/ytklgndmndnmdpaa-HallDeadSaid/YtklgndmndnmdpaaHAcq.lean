import Derived.Test.YtklgndmndnmdpaaHLen
set_option linter.unusedVariables false
set_option linter.unusedSimpArgs false
namespace Go.Proofs.Ytklgndmndnmdpaa
open Go.RowKit Go.Shelf

theorem results_cct {fn : Func} {t u s : Tmp} {ty ty' : TypeId} (h : fn.results = #[.cell t ty, .cell u ty', .tmp s]) {tmps : Array Value} {W : World} {a b : Addr} {v v' v'' : Value} (ht : tmps.getD t undef = .pointer (some a)) (hu : tmps.getD u undef = .pointer (some b)) (hs : tmps.getD s undef = v'')
    (hl : (loadVar ty a).run Try.prog W = .ok v W) (hl' : (loadVar ty' b).run Try.prog W = .ok v' W) : (results fn tmps).run Try.prog W = .ok (.tuple #[v, v', v'']) W := by
  simp only [Array.getD_eq_getD_getElem?] at ht hu hs
  simp [results, h, ht, hu, hs, asAddr, Sem.run_bind, Sem.run, hl, hl', Result.andThen]
def kcs (name : List UInt8) (id : Nat) : List Value := [str name, .int .i64 id]
set_option maxRecDepth 100000 in
set_option maxHeartbeats 1000000 in
/-- Nothing is acquired. -/
theorem hacq_none {w : World} (ph P : Option Addr) (name : List UInt8) (now : Int)
    (hq : ∀ W, Below w.heap.size w W → Calls Try.prog 47 #[.pointer ph, str name] W fun e w' => e = .returned (.pointer P) ∧ W = w')
    (ha : ∀ W, Below w.heap.size w W → Calls Try.prog 53 #[.pointer P, .int .i64 now] W fun r w' => r = .returned (.tuple #[.agg zItem.toArray, .bool false]) ∧ Below W.heap.size W w') :
    Calls Try.prog 23 #[.pointer ph, str name, .int .i64 now] w fun e w' => e = .returned (.tuple #[.agg (kcs [] 0).toArray, mgv zMg (.slice none 0 0), .bool false]) ∧ Below w.heap.size w w' := by
  have hb : ∀ o o', Below w.heap.size w ((w.alloc o).alloc o') := fun o o' => (below_alloc w o).alloc (by simp) o'
  have HB := Lib.hid hb
  have HQ := Lib.hid hq
  have HA := Lib.hid ha
  clear hb hq ha
  unfold str at HQ ⊢
  go_enter Try.func23, Try.ntmps23
  go_wp2_with fail
  refine (HQ.out _ (HB.out _ _)).mono ?_
  rintro e w1 ⟨rfl, rfl⟩
  go_wp2_with fail
  refine (HA.out _ (HB.out _ _)).mono ?_
  rintro e w2 ⟨rfl, b2⟩
  have k1 := ((Bx.new w 37 (kcs [] 0)).alloc (.cells zMsg.toArray 41)).below b2
  have k2 := (Bx.new' (w.alloc (.cells (kcs [] 0).toArray 37)) (b := w.heap.size + 1) 41 zMsg (by simp)).below b2
  have B2 := Lib.hid (below_then (HB.out (.cells (kcs [] 0).toArray 37) (.cells zMsg.toArray 41)) (HB.out _ _).size b2)
  have hs2 : w.heap.size + 1 < w2.heap.size := k2.lt
  have hs1 : w.heap.size < w2.heap.size := by omega
  have m0 := k1.cell 0 _ rfl
  have m1 := k1.cell 1 _ rfl
  have m2 := k1.froz 0
  have m3 := k1.froz 1
  have n0 := k2.cell 0 _ rfl
  have n1 := k2.cell 1 _ rfl
  have n2 := k2.cell 2 _ rfl
  have n3 := k2.cell 3 _ rfl
  have n4 := k2.cell 4 _ rfl
  have f0 := k2.froz 0
  have f1 := k2.froz 1
  have f2 := k2.froz 2
  have f3 := k2.froz 3
  have f4 := k2.froz 4
  have K1 := Lib.hid k1
  have K2 := Lib.hid k2
  clear b2 k1 k2
  unfold zItem
  go_wp2_with fail
  refine forgetX (fun W => Bx W w.heap.size 37 (kcs [] 0) ∧ Bx W (w.heap.size + 1) 41 zMsg ∧ Tch [w.heap.size, w.heap.size + 1] w2 W) ⟨?_, ?_, ?_⟩ ?_
  · refine Bx.alloc ?_ _
    have hne : w.heap.size ≠ w.heap.size + 1 := by omega
    with_reducible refine Bx.to (((((((K1.out.set 0 _).set 1 _).off hne).off hne).off hne).off hne).off hne) ?_
    rfl
  · refine Bx.alloc ?_ _
    have hne : w.heap.size + 1 ≠ w.heap.size := by omega
    with_reducible refine Bx.to (((((((K2.out.off hne).off hne).set 0 _).set 1 _).set 2 _).set 3 _).set 4 _) ?_
    rfl
  · refine Tch.alloc ?_ _
    with_reducible repeat first | exact Tch.refl _ _ | refine Tch.setCell ?_ _ (.inl (by simp))
  rintro W ⟨ka, kb, tb⟩
  refine bodyPost_ret (results_cct rfl rfl rfl rfl (ka.loadAgg (by kernel_rfl) (by kernel_rfl)) (kb.loadAgg (by kernel_rfl) (by kernel_rfl))) rfl ⟨rfl, Tch.below (F := [w.heap.size, w.heap.size + 1]) ((Tch.of_below _ B2.out).trans_ tb) (Nat.le_refl _) (by simp)⟩
theorem hacq_nil (name : List UInt8) (now : Int) (w : World) :
    Calls Try.prog 23 #[.pointer none, str name, .int .i64 now] w fun e w' => e = .returned (.tuple #[.agg (kcs [] 0).toArray, mgv zMg (.slice none 0 0), .bool false]) ∧ Below w.heap.size w w' :=
  hacq_none none none name now (fun W _ => hqueue_nil name W) fun W _ => acq_nil W now
theorem hacq_no {w0 w : World} {G : List Nat} {h lost : Nat} {C : List Cf} {Qs : List Qu} (hf : HF w0 w G h C Qs lost) (name : List UInt8) (now : Int) (hA : acqQ (qLs C Qs name) now = none) :
    Calls Try.prog 23 #[.pointer (some ⟨h, 0, none⟩), str name, .int .i64 now] w fun e w' => e = .returned (.tuple #[.agg (kcs [] 0).toArray, mgv zMg (.slice none 0 0), .bool false]) ∧ Below w.heap.size w w' := by
  refine hacq_none (some ⟨h, 0, none⟩) (qAt C Qs name) name now (fun W hb => hqueue_calls (hf.below hb) name) fun W hb => ?_
  cases hq : qAt C Qs name with
  | none => exact acq_nil W now
  | some a =>
    obtain ⟨i, hi, hAt, rfl, -⟩ := qAt_some hq
    rw [qLs_some hi hAt] at hA
    obtain ⟨Z, g1, -, -⟩ := (hf.below hb).step i hi
    refine (qf_acq g1 now).mono ?_
    rintro r w' (⟨-, h2, -, h4⟩ | ⟨e, v, h1, -⟩)
    · exact ⟨h2, h4⟩
    · rw [hA] at h1; cases h1
end Go.Proofs.Ytklgndmndnmdpaa

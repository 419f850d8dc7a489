import Derived.Test.YtafmhpcfjmannaaIkLaw
import Derived.StillTailTactics
import Derived.Laws.CopyRow
set_option linter.unusedVariables false
set_option linter.unusedSimpArgs false
namespace Go.Proofs.Ytafmhpcfjmannaa
open Go.RowKit

theorem lbeq (x t : List UInt8) : (x == t) = decide (x = t) := by
  by_cases h : x = t
  · subst h; simp
  · simp [h]
theorem ibeq (x t : Int) : (x == t) = decide (x = t) := by
  by_cases h : x = t
  · subst h; simp
  · simp [h]
theorem cell_set_same {w : World} {a : Addr} {u v : Value} (h : w.cell? a = some v) : (w.setCell a u).cell? a = some u := World.cell?_setCell_same' _ _ _ (by rw [h]; rfl)
theorem cell_set_off {w : World} {b j k : Nat} {u v : Value} (h : w.cell? ⟨b, k, none⟩ = some v) (hne : j ≠ k) : (w.setCell ⟨b, j, none⟩ u).cell? ⟨b, k, none⟩ = some v := by
  have hn : (⟨b, j, none⟩ : Addr) ≠ ⟨b, k, none⟩ := fun e => hne (congrArg Addr.off e)
  exact (World.cell?_setCell_other w _ _ u hn).trans h

/-- A key that lies in a block. -/
def KyAt (W : World) (b off : Nat) (k : Ky) : Prop := W.cell? ⟨b, off, none⟩ = some (.int .i64 k.h) ∧ W.cell? ⟨b, off + 1, none⟩ = some (.string ⟨k.t.toArray⟩)
theorem KyAt.new (w : World) (k : Ky) (t : TypeId) : KyAt (w.alloc (.cells #[.int .i64 k.h, .string ⟨k.t.toArray⟩] t)) w.heap.size 0 k := by
  have h := heap_alloc_new w (.cells #[.int .i64 k.h, .string ⟨k.t.toArray⟩] t)
  exact ⟨cell_of_heap (l := kcs k) h 0 _ rfl, cell_of_heap (l := kcs k) h 1 _ rfl⟩
theorem KyAt.tch {w w' : World} {F : List Nat} {b off : Nat} {k : Ky} (h : KyAt w b off k) (ht : Tch F w w') (hb : b ∉ F) : KyAt w' b off k := ⟨ht.cell h.1 hb, ht.cell h.2 hb⟩
theorem KyAt.below {w w' : World} {b off : Nat} {k : Ky} (h : KyAt w b off k) (hb : Below w.heap.size w w') : KyAt w' b off k := h.tch (Tch.of_below [] hb) (by simp)
theorem load_ky {W : World} {g : Nat} {k : Ky} (h : KyAt W g 0 k) : (loadVar 38 ⟨g, 0, none⟩).run Try.prog W = .ok (kv k) W := by
  obtain ⟨q0, q1⟩ := h
  simp only [Nat.zero_add] at q1
  have ha : (isAgg 38).run Try.prog W = .ok true W := by kernel_rfl
  have hs : (sizeOf 38).run Try.prog W = .ok 2 W := by kernel_rfl
  simp [loadVar, Sem.run_bind, ha, hs, Result.andThen, loadCells, loadCellsFrom, load, Sem.run, plain_add, q0, q1, kv, str]
theorem results_ky {fn : Func} {t u : Tmp} (h : fn.results = #[.cell t 38, .tmp u]) {tmps : Array Value} {W : World} {g : Nat} {k : Ky} {v : Value} (ht : tmps.getD t undef = .pointer (some ⟨g, 0, none⟩)) (hu : tmps.getD u undef = v) (ho : KyAt W g 0 k) :
    (results fn tmps).run Try.prog W = .ok (.tuple #[kv k, v]) W := by
  have hl := load_ky ho
  simp only [Array.getD_eq_getD_getElem?] at ht hu
  simp [results, h, ht, hu, asAddr, Sem.run_bind, Sem.run, hl, Result.andThen]

def rowC (es : Is) : List Value := es.map fun p => uv p.1
/-- Numbers in memory: their map, and their row; all that they are lies in blocks of F. -/
structure Ik (w : World) (a : Nat) (F : List Nat) (es : Is) : Prop where
  ex : ∃ r tv D, w.heap[a]? = some (.cells #[.map (some r), tv] 59 (0, 0)) ∧ MapS uv w r D ∧ (∀ t, luk D t = (geI es t).map kv) ∧
    OwnC 33 1 (fun _ => True) w 0 tv es.length (rowC es) ∧ r ∈ F ∧ ∀ g, tv.ownBlock = some g → g ∈ F
  mem : a ∈ F
  nodup : (es.map (·.1)).Nodup
  lts : ∀ k ∈ F, k < w.heap.size
theorem Ik.lt {w : World} {a : Nat} {F : List Nat} {es : Is} (h : Ik w a F es) : a < w.heap.size := by
  obtain ⟨⟨r, tv, D, h1, _⟩, _, _, _⟩ := h
  exact heap_lt h1
/-- What is done elsewhere turns nothing of them. -/
theorem Ik.tch {w w' : World} {a : Nat} {F G : List Nat} {es : Is} (h : Ik w a F es) (ht : Tch G w w') (hd : ∀ k ∈ F, k ∉ G) : Ik w' a F es := by
  obtain ⟨⟨r, tv, D, h1, h2, h3, h4, h5, h6⟩, hm, hn, hs⟩ := h
  exact ⟨⟨r, tv, D, (ht.block a (heap_lt h1) (hd a hm)).trans h1, h2.tch ht (hd r h5), h3, h4.tch ht (fun k hk => hd k (h6 k hk)), h5, h6⟩, hm, hn, fun k hk => Nat.lt_of_lt_of_le (hs k hk) ht.size⟩
theorem Ik.below {w w' : World} {a : Nat} {F : List Nat} {es : Is} (h : Ik w a F es) (hb : Below w.heap.size w w') : Ik w' a F es := h.tch (Tch.of_below [] hb) (fun _ _ hk => by cases hk)
theorem ik_sep {w : World} {a r : Nat} {tv : Value} {D : List (Nat × Value)} {cs0 : Array Value} {n : Nat} {cs : List Value} (h1 : w.heap[a]? = some (.cells cs0 59 (0, 0))) (h2 : MapS uv w r D) (h4 : OwnC 33 1 (fun _ => True) w 0 tv n cs) :
    a ≠ r ∧ ∀ g, tv.ownBlock = some g → g ≠ a ∧ g ≠ r := by
  obtain ⟨_, es, cl, g1, _⟩ := h2
  refine ⟨(fun e => (by rw [e, g1] at h1; cases h1)), fun g hg => ?_⟩
  rcases h4.2.2 with ⟨e1, _⟩ | ⟨g', cap, sp, e1, hb, hh, _⟩
  · rw [e1] at hg; simp [Value.ownBlock] at hg
  · rw [e1] at hg
    simp [Value.ownBlock] at hg
    subst hg
    refine ⟨fun e => ?_, (fun e => (by rw [e, g1] at hh; cases hh))⟩
    rw [e, h1] at hh
    simp at hh
theorem ik_close {w w2 : World} {a r : Nat} {F : List Nat} {D' : List (Nat × Value)} {tv v' : Value} {es' : Is}
    (H1 : w.heap[a]? = some (.cells #[.map (some r), tv] 59 (0, 0))) (HA : w2.heap[a]? = w.heap[a]?) (HM : MapS uv w2 r D') (hD : ∀ t, luk D' t = (geI es' t).map kv)
    (HO : OwnC 33 1 (fun _ => True) w2 0 v' es'.length (rowC es')) (hn : (es'.map (·.1)).Nodup) (ha : a ∈ F) (hr : r ∈ F) (hv : ∀ g, v'.ownBlock = some g → g ∈ F ∨ w.heap.size ≤ g) (ht : Tch F w w2) (hF : ∀ k ∈ F, k < w.heap.size) :
    ∃ F', Ik (w2.setCell ⟨a, 1, none⟩ v') a F' es' ∧ Tch F w (w2.setCell ⟨a, 1, none⟩ v') ∧ ∀ k ∈ F', k ∈ F ∨ w.heap.size ≤ k := by
  have h2 := HA.trans H1
  obtain ⟨s1, s2⟩ := ik_sep h2 HM HO
  refine ⟨F ++ v'.ownBlock.toList, ⟨⟨r, v', D', ?_, HM.keep (Below.heap_setCell _ _ _ _ (fun e => s1 e.symm)), hD, HO.keep fun k hk => Below.heap_setCell _ _ _ _ (s2 k hk).1, by simp [hr], fun g hg => by simp [hg]⟩, by simp [ha], hn, fun k hk => ?_⟩, ht.setCell _ (.inl ha), fun k hk => ?_⟩
  · exact heap_set_same (l := [.map (some r), tv]) h2 1 v'
  · have hsz : (w2.setCell ⟨a, 1, none⟩ v').heap.size = w2.heap.size := by simp
    rw [hsz]
    rcases List.mem_append.1 hk with h | h
    · exact Nat.lt_of_lt_of_le (hF k h) ht.size
    · exact (HO.lt k (by simpa using h)).2
  · rcases List.mem_append.1 hk with h | h
    · exact .inl h
    · exact hv k (by simpa using h)
theorem zero_ky (w : World) : (zeroValue 38).run Try.prog w = .ok (kv kz) w := by kernel_rfl

set_option maxHeartbeats 400000 in
theorem newI_calls (w : World) :
    Calls Try.prog 11 #[] w fun e w' => e = .returned (.pointer (some ⟨w.heap.size + 1, 0, none⟩)) ∧ Ik w' (w.heap.size + 1) [w.heap.size, w.heap.size + 1] [] ∧ Below w.heap.size w w' := by
  have hmm := @run_makeMap Try.prog
  go_enter Try.func11, Try.ntmps11
  go_wp2
  go_ret
  refine ⟨rfl, ⟨⟨w.heap.size, .slice none 0 0, [], ?_, ?_, ?_, OwnC.nil_, by simp, by simp [Value.ownBlock]⟩, by simp, by simp, by intro k hk; simp at hk ⊢; omega⟩, (below_alloc w _).trans ((below_alloc _ _).mono (by simp))⟩
  · have := heap_alloc_new (w.alloc (.map #[] 0)) (.cells #[.map (some w.heap.size), .slice none 0 0] 59)
    simpa using this
  · exact (MapS.made w).keep (by rw [heap_alloc_old]; simp)
  · intro t; rfl

set_option maxHeartbeats 400000 in
theorem getI_nil (t : Nat) (w : World) :
    Calls Try.prog 19 #[.pointer none, .int .u32 t] w fun e w' => e = .returned (.tuple #[.agg #[.int .i64 0, .string ⟨#[]⟩], .bool false]) ∧ Below w.heap.size w w' := by
  go_enter Try.func19, Try.ntmps19
  go_wp2
  exact bodyPost_ret (v := .tuple #[kv kz, .bool false]) (by simp [results, Try.results19, go_sem, kv, kz, str]) rfl ⟨rfl, by repeat (first | exact Below.refl _ _ | (refine Below.drew ?_) | (refine Below.alloc ?_ (by simp) _) | (refine Below.setCell ?_ (by simp) _))⟩

def getA (es : Is) (t : Nat) : Ky × Bool := ((geI es t).getD kz, (geI es t).isSome)
/-- The map's answer, whatever else has been made. -/
theorem Ik.look {w : World} {a : Nat} {F : List Nat} {es : Is} (h : Ik w a F es) : ∃ r A c, w.cell? ⟨a, 0, none⟩ = some (.map (some r)) ∧ w.cell? ⟨a, 1, none⟩ = some (.slice A es.length c) ∧ RdC 1 w A es.length c (rowC es) ∧
    ∀ W, Below w.heap.size w W → ∀ t : Nat, (Instr.lookup 57 (.map (some r)) (uv t) true).run Try.prog W = .ok (.tuple #[kv (getA es t).1, .bool (getA es t).2]) W ∧ (Instr.lookup 57 (.map (some r)) (uv t) false).run Try.prog W = .ok (kv (getA es t).1) W := by
  obtain ⟨⟨r, tv, D, h1, h2, h3, h4, h5, h6⟩, hm, hn, _⟩ := h
  obtain ⟨A, c, rfl, hr⟩ := h4.rd
  refine ⟨r, A, c, cell_of_heap (l := [.map (some r), .slice A es.length c]) h1 0 _ rfl, cell_of_heap (l := [.map (some r), .slice A es.length c]) h1 1 _ rfl, hr, fun W hW t => ?_⟩
  have h2' := h2.tch (Tch.of_below [] hW) (by simp)
  have l1 := h2'.look Try.underlying57 keyU t _ (zero_ky _) true
  have l2 := h2'.look Try.underlying57 keyU t _ (zero_ky _) false
  rw [l1, l2, h3]
  unfold getA
  cases geI es t <;> exact ⟨rfl, rfl⟩

set_option maxHeartbeats 400000 in
theorem getI_calls (a : Nat) (F : List Nat) (es : Is) (t : Nat) (w : World) (h : Ik w a F es) {k : Ky} {b : Bool} (hg : getA es t = (k, b)) :
    Calls Try.prog 19 #[.pointer (some ⟨a, 0, none⟩), .int .u32 t] w fun e w' => e = .returned (.tuple #[.agg #[.int .i64 k.h, .string ⟨k.t.toArray⟩], .bool b]) ∧ Below w.heap.size w w' := by
  obtain ⟨r, A, c, hc0, hc1, hr, hlk⟩ := h.look
  have hl := fun o => (hlk (w.alloc o) (below_alloc w o) t).1
  rw [hg] at hl
  have hlt := h.lt
  obtain ⟨kh, kt⟩ := k
  unfold kv str uv at hl
  simp only at hl ⊢
  clear hlk hr h hg
  go_enter Try.func19, Try.ntmps19
  go_wp2
  exact bodyPost_ret (v := .tuple #[.agg #[.int .i64 kh, .string ⟨kt.toArray⟩], .bool b]) (by simp [results, Try.results19, go_sem]) rfl ⟨rfl, (by repeat (first | exact Below.refl _ _ | (refine Below.drew ?_) | (refine Below.alloc ?_ (by simp) _) | (refine Below.setCell ?_ (by simp) _)))⟩

set_option maxHeartbeats 400000 in
theorem count_nil (w : World) : Calls Try.prog 16 #[.pointer none] w fun e w' => e = .returned (.int .i64 0) ∧ w = w' := by
  go_enter Try.func16, Try.ntmps16
  go_wp2
  go_ret
  exact ⟨rfl, rfl⟩
set_option maxHeartbeats 400000 in
theorem count_calls (a : Nat) (F : List Nat) (es : Is) (w : World) (h : Ik w a F es) :
    Calls Try.prog 16 #[.pointer (some ⟨a, 0, none⟩)] w fun e w' => e = .returned (.int .i64 es.length) ∧ w = w' := by
  obtain ⟨r, A, c, hc0, hc1, hr, hlk⟩ := h.look
  obtain ⟨n, hn⟩ : ∃ n, es.length = n := ⟨_, rfl⟩
  rw [hn] at hc1 ⊢
  clear hlk hr h hn
  go_enter Try.func16, Try.ntmps16
  go_wp2
  go_ret
  exact ⟨rfl, rfl⟩
end Go.Proofs.Ytafmhpcfjmannaa

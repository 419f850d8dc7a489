import Derived.Test.YtmeljnohkhkfmaaIn2
set_option linter.unusedVariables false
set_option linter.unusedSimpArgs false
namespace Go.Proofs.Ytmeljnohkhkfmaa
open Go.RowKit

def DrP (w : World) (a : Nat) (F : List Nat) (most : Nat) (l : List UInt8) (ph : Nat) (e : Ending) (w' : World) : Prop :=
  ∃ F', e = .returned (.tuple #[]) ∧ In w' a F' most l ph ∧ Tch F w w' ∧ (∀ k ∈ F', k ∈ F ∨ w.heap.size ≤ k) ∧ ∀ k ∈ F', k = a ∨ w.heap.size ≤ k
theorem rd_drop {w : World} {A : Option Addr} {c : Nat} {l : List UInt8} (h : Rd w A c l) (n : Nat) (hn : n ≤ l.length) : Rd w (cutA A c n 1) (c - n) (l.drop n) := by
  have := h.cut n l.length hn (Nat.le_refl _)
  rwa [List.take_length] at this
theorem OkI.sub {most ph : Nat} {l : List UInt8} (h : OkI most l ph) (n : Nat) : OkI most (l.drop n) ph := ⟨h.lo, h.hi, by have := h.len; rw [List.length_drop]; omega, h.ph2, fun hp => by rw [h.bad hp]; simp⟩

set_option maxHeartbeats 800000 in
theorem idrop_calls {w : World} {a : Nat} {F : List Nat} {most ph : Nat} {l : List UInt8} {n : Nat} {z : Int} (h : In w a F most l ph) (hz : z = n) (hn : n ≤ l.length) :
    Calls Try.prog 40 #[.pointer (some ⟨a, 0, none⟩), .int .i64 z] w (DrP w a F most (l.drop n) ph) := by
  subst hz
  obtain ⟨A, c, h1, ho, hr, ⟨c0, c1, c2, c3⟩, hfz, hne⟩ := h.row
  have H := Lib.hid h
  have H1 := Lib.hid h1
  have HR := Lib.hid (rd_drop hr n hn)
  have HOK := Lib.hid (h.ok.sub n)
  have hl4 : l.length ≤ 4104 := by have := h.ok.len; have := h.ok.hi; omega
  have hsl := fun W => slice_from A l.length c n .i64 hn W
  obtain ⟨N, hN⟩ : ∃ N, l.length = N := ⟨_, rfl⟩
  have HN := Lib.hid hN
  rw [hN] at c1 hsl hl4 hn H1
  obtain ⟨B, hB⟩ : ∃ B, cutA A c n 1 = B := ⟨_, rfl⟩
  rw [hB] at hsl HR
  clear h h1 ho hr hne hN hB
  go_enter Try.func40, Try.ntmps40
  go_wp2_with (at_builtin; refine wpList_appB w rfl _ _ rfl w.heap.size (.slice none 0 0) [] rfl OwnB.nil_ B (N - n) (c - n) (l.drop n) rfl ?hn HR.out ?hb ?hbase ?_)
  case hn => rw [List.length_drop, HN.out]
  case hb => rw [List.length_drop, HN.out]; simp; omega
  case hbase => exact Nat.le_refl _
  intro v' w' ow gw y1 y2
  clear y1 y2
  obtain ⟨A5, c5, rfl⟩ := OwnC.slice ow
  have hz0 : ∀ k, (Value.slice A5 (l.drop n).length c5).ownBlock = some k → w.heap.size ≤ k := fun k hk => (OwnB.lt ow k hk).1
  have hgr : w.grownBy w' none := by simpa [Value.ownBlock] using gw
  have hlt := heap_lt H1.out
  obtain ⟨k0, k1, HFIN⟩ := in_store (w := w) (F := F) (l' := l.drop n) (((below_of_grown hgr).block a hlt).trans H1.out) (ow.base (Nat.zero_le _)) H.out.mem (fun g hg => by have := hz0 g hg; omega) (fun g hg => .inr (hz0 g hg)) (Tch.of_below F (below_of_grown hgr)) H.out.lts HOK.out
  have HZ0 := Lib.hid hz0
  clear ow gw hz0 hgr
  rw [show (l.drop n).length = N - n by rw [List.length_drop, HN.out]] at HFIN HZ0 ⊢
  go_wp2_with fail
  go_end0
  obtain ⟨F', f1, f2, f3, f4⟩ := HFIN.out
  refine ⟨F', rfl, f1, f2, f3, fun k hk => ?_⟩
  rcases f4 k hk with h | h
  · exact .inl h
  · exact .inr (HZ0.out k h)

theorem heap_last {w : World} {b : Nat} {o : Obj} (h : b = w.heap.size) : (w.alloc o).heap[b]? = some o := by subst h; exact heap_alloc_new w o
/-! ### The frame that is told -/
/-- A frame's block. -/
def FrB (w : World) (b : Nat) (ch : Nat) (v : Value) : Prop := w.heap[b]? = some (.cells #[.int .u16 ch, v] 39 (0, 0))
theorem FrB.new (w : World) (ch : Nat) (v : Value) : FrB (w.alloc (.cells #[.int .u16 ch, v] 39)) w.heap.size ch v := heap_alloc_new w _
theorem FrB.tch {F : List Nat} {w w' : World} {b ch : Nat} {v : Value} (h : FrB w b ch v) (ht : Tch F w w') (hb : b ∉ F) : FrB w' b ch v := (ht.block b (heap_lt h) hb).trans h
theorem FrB.cells {w : World} {b ch : Nat} {v : Value} (h : FrB w b ch v) : w.cell? ⟨b, 0, none⟩ = some (.int .u16 ch) ∧ w.cell? ⟨b, 1, none⟩ = some v ∧ ∀ j, w.frozen? ⟨b, j, none⟩ = false :=
  ⟨cell_of_heap (l := [.int .u16 ch, v]) h 0 _ rfl, cell_of_heap (l := [.int .u16 ch, v]) h 1 _ rfl, fun j => froz_of_heap h j⟩
theorem FrB.set2 {w : World} {b ch ch' : Nat} {v v' : Value} {z : Int} (h : FrB w b ch v) (hz : z = ch') : FrB ((w.setCell ⟨b, 0, none⟩ (.int .u16 z)).setCell ⟨b, 1, none⟩ v') b ch' v' := by
  subst hz
  exact heap_setCell_same (heap_setCell_same (l := [.int .u16 ch, v]) h 0 (.int .u16 ch')) 1 v'
theorem FrB.load {w : World} {b ch : Nat} {v : Value} (h : FrB w b ch v) : (loadVar 39 ⟨b, 0, none⟩).run Try.prog w = .ok (.agg #[.int .u16 ch, v]) w := by
  obtain ⟨q0, q1, -⟩ := h.cells
  have ha : (isAgg 39).run Try.prog w = .ok true w := by kernel_rfl
  have hs : (sizeOf 39).run Try.prog w = .ok 2 w := by kernel_rfl
  simp [loadVar, Sem.run_bind, ha, hs, Result.andThen, loadCells, loadCellsFrom, Go.load, Sem.run, plain_add, q0, q1]
theorem results_fr {W : World} {b ch : Nat} {v k : Value} {fn : Func} {i t : Tmp} (h : fn.results = #[.tmp i, .cell t 39]) {tmps : Array Value} (hi : tmps.getD i undef = k) (ht : tmps.getD t undef = .pointer (some ⟨b, 0, none⟩)) (ho : FrB W b ch v) :
    (results fn tmps).run Try.prog W = .ok (.tuple #[k, .agg #[.int .u16 ch, v]]) W := by
  have hl := ho.load
  simp only [Array.getD_eq_getD_getElem?] at ht hi
  simp [results, h, ht, hi, asAddr, Sem.run_bind, Sem.run, hl, Result.andThen]
def NxP (r : NxI) (w : World) (a : Nat) (F : List Nat) (most : Nat) (e : Ending) (w' : World) : Prop :=
  ∃ F' v, e = .returned (.tuple #[.int .u8 r.kind, .agg #[.int .u16 r.ch, v]]) ∧ OwnB w' w.heap.size v r.body ∧ In w' a F' most r.l r.ph ∧ Tch F w w' ∧ (∀ k ∈ F', k ∈ F ∨ w.heap.size ≤ k) ∧ ∀ g, v.ownBlock = some g → g ∉ F'
theorem nx_fin {w w2 W : World} {a b base ch : Nat} {kv : Value} {F F' : List Nat} {most : Nat} {r : NxI} {v : Value} (h : In w2 a F' most r.l r.ph) (t : Tch F w w2) (f : ∀ k ∈ F', k ∈ F ∨ w.heap.size ≤ k) (o : OwnB w2 base v r.body) (hb : w.heap.size ≤ base) (hbw : w.heap.size ≤ b)
    (hbF : b ∉ F') (hbv : ∀ g, v.ownBlock = some g → g ≠ b) (hv : ∀ g, v.ownBlock = some g → g ∉ F') (t3 : Tch [b] w2 W) (hk : kv = .int .u8 r.kind) (hc : ch = r.ch) : NxP r w a F most (.returned (.tuple #[kv, .agg #[.int .u16 ch, v]])) W :=
  ⟨F', v, by rw [hk, hc], (OwnC.tch o t3 (fun k hk hm => hbv k hk (by simpa using hm))).base hb, h.tch t3 (fun k hk hm => by simp at hm; rw [hm] at hk; exact hbF hk), t.trans t3 (fun j hj => by simp at hj; right; omega), f, hv⟩

set_option maxHeartbeats 400000 in
theorem ispoil1_calls (w : World) : Calls Try.prog 44 #[] w fun e w' => e = .returned (.tuple #[.int .u8 3, .agg #[.int .u16 0, .slice none 0 0]]) ∧ Below w.heap.size w w' := by
  go_enter Try.func44, Try.ntmps44
  go_wp2_with fail
  refine forgetX (fun W => FrB W w.heap.size 0 (.slice none 0 0) ∧ Below w.heap.size w W) ⟨?_, ?_⟩ ?_
  · first | exact (FrB.new w 0 (.slice none 0 0)).set2 rfl | exact FrB.new w 0 (.slice none 0 0)
  · repeat (first | exact Below.refl _ _ | (refine Below.drew ?_) | (refine Below.alloc ?_ (by simp) _) | (refine Below.setCell ?_ (by simp) _))
  rintro W ⟨hf, hb⟩
  exact bodyPost_ret (results_fr (i := 0) (t := 1) rfl rfl rfl hf) rfl ⟨rfl, hb⟩
set_option maxHeartbeats 800000 in
theorem ispoil_calls {w : World} {a : Nat} {F : List Nat} {most ph : Nat} {l : List UInt8} (h : In w a F most l ph) :
    Calls Try.prog 39 #[.pointer (some ⟨a, 0, none⟩)] w (NxP ⟨3, 0, [], [], 2⟩ w a F most) := by
  obtain ⟨A, c, h1, ho, hr, ⟨c0, c1, c2, c3⟩, hfz, hne⟩ := h.row
  have H := Lib.hid h
  have H1 := Lib.hid h1
  have hlt := h.lt
  have hnf : a ≠ w.heap.size := by omega
  obtain ⟨fv, hfv⟩ : ∃ fv, fnv a ph = fv := ⟨_, rfl⟩
  rw [hfv] at c3 H1
  obtain ⟨N, hN⟩ : ∃ N, l.length = N := ⟨_, rfl⟩
  rw [hN] at c1 H1
  obtain ⟨bv, hbv⟩ : ∃ bv, decide (ph = 2) = bv := ⟨_, rfl⟩
  rw [hbv] at c2 H1
  have HFZ := Lib.hid hfz
  have f1 := hfz 1
  have f2 := hfz 2
  have f3 := hfz 3
  clear h h1 ho hr hne hfv hN hbv hfz
  go_enter Try.func39, Try.ntmps39
  go_upto_region 3 with fail
  refine forget (fun W => W.heap[a]? = some (.cells #[.int .u32 most, .slice none 0 0, .bool true, fnv a 2] 61 (0, 0)) ∧ FrB W w.heap.size 0 (.slice none 0 0) ∧ Tch [a] w W ∧ w.heap.size < W.heap.size) ⟨?_, ?_, ?_, ?_⟩ ?_
  · rw [heap_alloc_old _ _ (by simp; omega)]
    exact heap_setCell_same (heap_setCell_same (heap_setCell_same (l := [.int .u32 most, .slice A N c, .bool bv, fv]) H1.out 2 (.bool true)) 1 (.slice none 0 0)) 3 _
  · exact heap_last (by simp)
  · repeat (first | with_reducible exact Tch.refl _ _ | with_reducible refine Tch.setCell ?_ _ (by simp) | with_reducible refine Tch.alloc ?_ _)
  · simp
  rintro W ⟨g1, g2, g3, g4⟩
  have G1 := Lib.hid g1
  have G2 := Lib.hid g2
  have G3 := Lib.hid g3
  have d3 := cell_of_heap (l := [.int .u32 most, .slice none 0 0, .bool true, fnv a 2]) g1 3 _ rfl
  unfold fnv at d3
  simp only [if_neg (show ¬ (2 : Nat) = 0 by decide), if_neg (show ¬ (2 : Nat) = 1 by decide)] at d3
  clear g1 g2 g3 c0 c1 c2 c3 f1 f2 f3
  go_wp2_with fail
  refine (ispoil1_calls _).mono ?_
  rintro e w2 ⟨rfl, b2⟩
  have K2 := Lib.hid (G2.out.tch (Tch.of_below [] b2) (by simp))
  obtain ⟨q0, q1, q2⟩ := K2.out.cells
  have B2 := Lib.hid b2
  have hz2 : w.heap.size < w2.heap.size := heap_lt K2.out
  clear b2 d3
  go_wp2_with fail
  refine forgetX (fun W => FrB W w.heap.size 0 (.slice none 0 0) ∧ Tch [w.heap.size] w2 W) ⟨?_, ?_⟩ ?_
  · exact K2.out.set2 (ch' := 0) (show (0 : Int) = ((0 : Nat) : Int) from rfl)
  · repeat (first | with_reducible exact Tch.refl _ _ | with_reducible refine Tch.setCell ?_ _ (by simp))
  rintro W3 ⟨hf, t3⟩
  have hIn : In w2 a [a] most [] 2 := ⟨⟨.slice none 0 0, (B2.out.block a (heap_lt G1.out)).trans G1.out, OwnB.nil_, by simp [Value.ownBlock]⟩, by simp, fun k hk => by simp at hk; omega, ⟨H.out.ok.lo, H.out.ok.hi, by simp, by omega, fun _ => rfl⟩⟩
  exact bodyPost_ret (results_fr (k := .int .u8 3) (i := 2) (t := 3) rfl rfl rfl hf) rfl (nx_fin (r := ⟨3, 0, [], [], 2⟩) (base := w.heap.size) (F := F) hIn (((G3.out.mono (by simpa using H.out.mem)).trans (Tch.of_below [] B2.out) (by simp))) (fun k hk => by simp at hk; rw [hk]; exact .inl H.out.mem) OwnB.nil_ (Nat.le_refl _) (Nat.le_refl _) (by simp; omega) (by simp [Value.ownBlock]) (by simp [Value.ownBlock]) t3 rfl rfl)

set_option maxHeartbeats 400000 in
theorem istart_calls (w : World) : Calls Try.prog 24 #[] w fun e w' => e = .returned (.slice (some ⟨w.heap.size, 0, none⟩) 8 8) ∧ OwnB w' w.heap.size (.slice (some ⟨w.heap.size, 0, none⟩) 8 8) stB ∧ Below w.heap.size w w' := by
  go_enter Try.func24, Try.ntmps24
  go_wp2_with fail
  go_ret
  exact ⟨rfl, OwnB.made (l := stB) (sp := []) (Nat.le_refl _) (heap_last rfl) rfl (by decide), below_alloc w _⟩
set_option maxHeartbeats 400000 in
theorem beq_calls {A B : Option Addr} {c d n k : Nat} {l m : List UInt8} {w : World} (h : Rd w A c l) (h2 : Rd w B d m) (hn : l.length = n) (hk : m.length = k) :
    Calls Try.prog 38 #[.slice A n c, .slice B k d] w fun e w' => e = .returned (.bool (decide (l = m))) ∧ w' = w := by
  subst hn hk
  have s1 : (convert 24 9 (.slice A l.length c)).run Try.prog w = .ok (.string ⟨l.toArray⟩) w := conv_bytes h
  have s2 : (convert 24 9 (.slice B m.length d)).run Try.prog w = .ok (.string ⟨m.toArray⟩) w := conv_bytes h2
  clear h h2
  go_enter Try.func38, Try.ntmps38
  go_wp2_with fail
  go_ret
  refine ⟨?_, rfl⟩
  by_cases he : l = m
  · simp [he]
  · simp [he]
end Go.Proofs.Ytmeljnohkhkfmaa

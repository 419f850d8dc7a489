import Derived.Test.YtafmhpcfjmannaaISame
import Derived.Deep.RegionLaw
set_option linter.unusedVariables false
set_option linter.unusedSimpArgs false
namespace Go.Proofs.Ytafmhpcfjmannaa
open Go.RowKit

def ec (p : Nat × Ky) : List Value := [.int .u32 p.1, .int .i64 p.2.h, .string ⟨p.2.t.toArray⟩]
def ents (es : Is) : List Value := es.flatMap ec
theorem ents_length (es : Is) : (ents es).length = es.length * 3 := by
  induction es with
  | nil => rfl
  | cons p es ih =>
    have : ents (p :: es) = ec p ++ ents es := rfl
    rw [this, List.length_append, ih, List.length_cons]
    simp [ec]
    omega
theorem ec_one (p : Nat × Ky) : ∀ u ∈ ec p, u.oneCell' = true := by
  intro u hu
  simp only [ec, List.mem_cons, List.not_mem_nil, or_false] at hu
  rcases hu with rfl | rfl | rfl <;> rfl
theorem ents_snoc (es : Is) (p : Nat × Ky) : ents (es ++ [p]) = ents es ++ ec p := by simp [ents]
theorem Try.info_ent : (Try.prog.info? 77).map (fun i => (i.zero, i.size, i.bytes)) = some (some (.agg #[.int .u32 0, .int .i64 0, .string ⟨#[]⟩]), 3, 32) := by kernel_rfl
theorem ent_at {w : World} {A : Option Addr} {n c : Nat} {es : Is} (h : RdC 3 w A n c (ents es)) (i : Nat) (hi : i < es.length) : ∃ b o, A = some ⟨b, o, none⟩ ∧ w.cell? ⟨b, o + i * 3, none⟩ = some (.int .u32 (es[i]).1) ∧ w.cell? ⟨b, o + i * 3 + 1, none⟩ = some (.int .i64 (es[i]).2.h) ∧ w.cell? ⟨b, o + i * 3 + 1 + 1, none⟩ = some (.string ⟨(es[i]).2.t.toArray⟩) := by
  obtain ⟨b, o, e, hc⟩ := rec_at ec (by decide) (fun _ => rfl) h i hi
  exact ⟨b, o, e, hc 0 _ rfl, hc 1 _ rfl, hc 2 _ rfl⟩

/-- The reference's numbers in memory: a row; all that they are lies in blocks of F. -/
structure Rk (w : World) (a : Nat) (F : List Nat) (es : Is) : Prop where
  ex : ∃ tv, w.heap[a]? = some (.cells #[tv] 62 (0, 0)) ∧ OwnC 77 3 (fun _ => True) w 0 tv es.length (ents es) ∧ ∀ g, tv.ownBlock = some g → g ∈ F
  mem : a ∈ F
  lts : ∀ k ∈ F, k < w.heap.size
theorem Rk.lt {w : World} {a : Nat} {F : List Nat} {es : Is} (h : Rk w a F es) : a < w.heap.size := h.lts a h.mem
theorem Rk.tch {w w' : World} {a : Nat} {F G : List Nat} {es : Is} (h : Rk w a F es) (ht : Tch G w w') (hd : ∀ k ∈ F, k ∉ G) : Rk w' a F es := by
  obtain ⟨⟨tv, h1, h2, h3⟩, hm, hs⟩ := h
  exact ⟨⟨tv, (ht.block a (heap_lt h1) (hd a hm)).trans h1, h2.tch ht (fun k hk => hd k (h3 k hk)), h3⟩, hm, fun k hk => Nat.lt_of_lt_of_le (hs k hk) ht.size⟩
theorem Rk.below {w w' : World} {a : Nat} {F : List Nat} {es : Is} (h : Rk w a F es) (hb : Below w.heap.size w w') : Rk w' a F es := h.tch (Tch.of_below [] hb) (fun _ _ hk => by cases hk)
theorem Rk.row {w : World} {a : Nat} {F : List Nat} {es : Is} (h : Rk w a F es) : ∃ A c, w.heap[a]? = some (.cells #[.slice A es.length c] 62 (0, 0)) ∧ OwnC 77 3 (fun _ => True) w 0 (.slice A es.length c) es.length (ents es) ∧ RdC 3 w A es.length c (ents es) ∧
    w.cell? ⟨a, 0, none⟩ = some (.slice A es.length c) ∧ w.frozen? ⟨a, 0, none⟩ = false ∧ ∀ g, (Value.slice A es.length c).ownBlock = some g → g ∈ F ∧ g ≠ a := by
  obtain ⟨⟨tv, h1, h2, h3⟩, hm, hs⟩ := h
  obtain ⟨A, c, rfl, hr⟩ := h2.rd
  refine ⟨A, c, h1, h2, hr, cell_of_heap (l := [.slice A es.length c]) h1 0 _ rfl, froz_of_heap h1 0, fun g hg => ⟨h3 g hg, fun e => ?_⟩⟩
  rcases h2.2.2 with ⟨e1, _⟩ | ⟨g', cap, sp, e1, hb, hh, _⟩
  · rw [e1] at hg; simp [Value.ownBlock] at hg
  · rw [e1] at hg
    simp [Value.ownBlock] at hg
    subst hg
    rw [e, h1] at hh
    simp at hh
/-- A new row is laid in. -/
theorem rk_close {w w2 : World} {a : Nat} {F : List Nat} {tv v' : Value} {es' : Is} (H1 : w2.heap[a]? = some (.cells #[tv] 62 (0, 0)))
    (HO : OwnC 77 3 (fun _ => True) w2 0 v' es'.length (ents es')) (ha : a ∈ F) (hv : ∀ g, v'.ownBlock = some g → g ∈ F ∨ w.heap.size ≤ g) (ht : Tch F w w2) (hF : ∀ k ∈ F, k < w.heap.size) :
    ∃ F', Rk (w2.setCell ⟨a, 0, none⟩ v') a F' es' ∧ Tch F w (w2.setCell ⟨a, 0, none⟩ v') ∧ ∀ k ∈ F', k ∈ F ∨ w.heap.size ≤ k := by
  have hne : ∀ g, v'.ownBlock = some g → g ≠ a := fun g hg e => by
    rcases HO.2.2 with ⟨e1, _⟩ | ⟨g', cap, sp, e1, hb, hh, _⟩
    · rw [e1] at hg; simp [Value.ownBlock] at hg
    · rw [e1] at hg
      simp [Value.ownBlock] at hg
      subst hg
      rw [e, H1] at hh
      simp at hh
  refine ⟨F ++ v'.ownBlock.toList, ⟨⟨v', ?_, HO.keep fun k hk => Below.heap_setCell _ _ _ _ (hne k hk), fun g hg => by simp [hg]⟩, by simp [ha], fun k hk => ?_⟩, ht.setCell _ (.inl ha), fun k hk => ?_⟩
  · exact heap_set_same (l := [tv]) H1 0 v'
  · have hsz : (w2.setCell ⟨a, 0, none⟩ v').heap.size = w2.heap.size := by simp
    rw [hsz]
    rcases List.mem_append.1 hk with h | h
    · exact Nat.lt_of_lt_of_le (hF k h) ht.size
    · exact (HO.lt k (by simpa using h)).2
  · rcases List.mem_append.1 hk with h | h
    · exact .inl h
    · exact hv k (by simpa using h)

theorem rk_app {w wr X w' : World} {a q c : Nat} {A : Option Addr} {F : List Nat} {es : Is} {p : Nat × Ky} {v' : Value} (HB : Below w.heap.size w wr) (gw : X.grownBy w' (Value.slice A q c).ownBlock)
    (ow : OwnC 77 3 (fun _ => True) w' 0 v' (q + 1) (ents es ++ ec p)) (y2 : v'.ownBlock = (Value.slice A q c).ownBlock ∨ v'.ownBlock = some X.heap.size)
    (H1 : w.heap[a]? = some (.cells #[.slice A q c] 62 (0, 0))) (HNE : ∀ g, (Value.slice A q c).ownBlock = some g → g ∈ F ∧ g ≠ a) (hm : a ∈ F) (hs : ∀ k ∈ F, k < w.heap.size) (hq : es.length = q) (tX : Tch [] wr X) :
    w'.cell? ⟨a, 0, none⟩ = some (.slice A q c) ∧ w'.frozen? ⟨a, 0, none⟩ = false ∧ Hid (∃ F', Rk (w'.setCell ⟨a, 0, none⟩ v') a F' (es ++ [p]) ∧ Tch F w (w'.setCell ⟨a, 0, none⟩ v') ∧ ∀ k ∈ F', k ∈ F ∨ w.heap.size ≤ k) := by
  have tF : Tch F w X := (Tch.of_below F HB).trans tX (fun j hj => by cases hj)
  have tW : Tch F w w' := tF.grown gw (fun k hk => .inl (HNE k hk).1)
  have hlt := heap_lt H1
  have ha : w'.heap[a]? = some (.cells #[.slice A q c] 62 (0, 0)) := by
    rw [gw.block a (Nat.lt_of_lt_of_le hlt tF.size) (fun e => (HNE a e.symm).2 rfl), tX.block a (Nat.lt_of_lt_of_le hlt HB.size) (by simp), HB.block a hlt]
    exact H1
  refine ⟨cell_of_heap (l := [.slice A q c]) ha 0 _ rfl, froz_of_heap ha 0, Lib.hid (rk_close ha ?_ hm ?_ tW hs)⟩
  · rw [List.length_append, ents_snoc, hq]
    exact ow
  · intro g hg
    rcases y2 with e | e
    · exact .inl (HNE g (by rw [← e]; exact hg)).1
    · rw [e] at hg
      cases hg
      exact .inr tF.size
set_option maxHeartbeats 400000 in
theorem rnewI_calls (w : World) :
    Calls Try.prog 12 #[] w fun e w' => e = .returned (.pointer (some ⟨w.heap.size, 0, none⟩)) ∧ Rk w' w.heap.size [w.heap.size] [] ∧ Below w.heap.size w w' := by
  go_enter Try.func12, Try.ntmps12
  go_wp2
  go_ret
  exact ⟨rfl, ⟨⟨.slice none 0 0, heap_alloc_new w _, OwnC.nil_, by simp [Value.ownBlock]⟩, by simp, by intro k hk; simp at hk ⊢; omega⟩, below_alloc w _⟩
set_option maxHeartbeats 400000 in
theorem rcount_calls (a : Nat) (F : List Nat) (es : Is) (w : World) (h : Rk w a F es) :
    Calls Try.prog 17 #[.pointer (some ⟨a, 0, none⟩)] w fun e w' => e = .returned (.int .i64 es.length) ∧ w = w' := by
  obtain ⟨A, c, h1, _, _, hc, _, _⟩ := h.row
  obtain ⟨n, hn⟩ : ∃ n, es.length = n := ⟨_, rfl⟩
  rw [hn] at hc ⊢
  clear h h1 hn
  go_enter Try.func17, Try.ntmps17
  go_wp2
  go_ret
  exact ⟨rfl, rfl⟩

theorem rkey_load {W : World} {g : Nat} {k : Ky} (h : KyAt W g 0 k) : (loadVar 63 ⟨g, 0, none⟩).run Try.prog W = .ok (kv k) W := by
  obtain ⟨q0, q1⟩ := h
  simp only [Nat.zero_add] at q1
  have ha : (isAgg 63).run Try.prog W = .ok true W := by kernel_rfl
  have hs : (sizeOf 63).run Try.prog W = .ok 2 W := by kernel_rfl
  simp [loadVar, Sem.run_bind, ha, hs, Result.andThen, loadCells, loadCellsFrom, load, Sem.run, plain_add, q0, q1, kv, str]
theorem results_rky {fn : Func} {t u : Tmp} (h : fn.results = #[.cell t 63, .tmp u]) {tmps : Array Value} {W : World} {g : Nat} {k : Ky} {v : Value} (ht : tmps.getD t undef = .pointer (some ⟨g, 0, none⟩)) (hu : tmps.getD u undef = v) (ho : KyAt W g 0 k) :
    (results fn tmps).run Try.prog W = .ok (.tuple #[kv k, v]) W := by
  have hl := rkey_load ho
  simp only [Array.getD_eq_getD_getElem?] at ht hu
  simp [results, h, ht, hu, asAddr, Sem.run_bind, Sem.run, hl, Result.andThen]
theorem geI_first {es : Is} {i q : Nat} (hq : q < es.length) (he : es[q].1 = i) (hno : ∀ r (hr : r < es.length), r < q → es[r].1 ≠ i) : geI es i = some es[q].2 := by
  simp only [geI, Option.map_eq_some_iff]
  refine ⟨es[q], ?_, rfl⟩
  rw [List.find?_eq_some_iff_getElem]
  exact ⟨by simpa using he, q, hq, rfl, fun j hj => by simpa using hno j (by omega) hj⟩
theorem fiI_first {es : Is} {k : Ky} {q : Nat} (hq : q < es.length) (he : es[q].2 = k) (hno : ∀ r (hr : r < es.length), r < q → es[r].2 ≠ k) : fiI es k = some es[q].1 := by
  simp only [fiI, Option.map_eq_some_iff]
  refine ⟨es[q], ?_, rfl⟩
  rw [List.find?_eq_some_iff_getElem]
  exact ⟨by simpa using he, q, hq, rfl, fun j hj => by simpa using hno j (by omega) hj⟩

set_option maxRecDepth 100000 in
set_option maxHeartbeats 1000000 in
theorem rgetI_calls (a : Nat) (F : List Nat) (es : Is) (i : Nat) (w : World) (h : Rk w a F es) {k : Ky} {b : Bool} (hg : getA es i = (k, b)) :
    Calls Try.prog 26 #[.pointer (some ⟨a, 0, none⟩), .int .u32 i] w fun e w' => e = .returned (.tuple #[.agg #[.int .i64 k.h, .string ⟨k.t.toArray⟩], .bool b]) ∧ Below w.heap.size w w' := by
  obtain ⟨A, c, _, _, hr, hc, _, _⟩ := h.row
  have hlt := h.lt
  have HR := Lib.hid hr
  have hm1 := hr.2.1
  have hm2 := hr.2.2.1
  obtain ⟨N, hN⟩ : ∃ N, es.length = N := ⟨_, rfl⟩
  rw [hN] at hc HR hm1
  have HN := Lib.hid hN
  have HG := Lib.hid hg
  have HC := Lib.hid hc
  clear h hr hN hg hc
  go_enter Try.func26, Try.ntmps26
  go_wp2_with fail
  go_loopw [6] (fun u wr => ∃ q : Nat, q ≤ N ∧ u = .int .i64 q ∧ Below (w.heap.size + 1) (w.alloc (.cells #[.int .i64 0, .string ⟨#[]⟩] 63)) wr ∧ Hid (∀ r (hr : r < es.length), r < q → es[r].1 ≠ i)) (fun u _ => N - (intOf u).toNat)
  case atStart => exact ⟨0, by omega, rfl, Below.refl _ _, Lib.hid (fun r _ h => by omega)⟩
  case round =>
    obtain ⟨q, hq, rfl, hbl, HNO⟩ := hrel
    have hBW : Below w.heap.size w wr := (below_alloc w _).trans (hbl.mono (by omega))
    have HBW := Lib.hid hBW
    have HBL := Lib.hid hbl
    have hc := stays_ hBW HC.out
    have hzk : wr.heap[w.heap.size]? = some (.cells (kcs kz).toArray 63 (0, 0)) := (hbl.block _ (by omega)).trans (heap_alloc_new w _)
    have z0 := cell_of_heap hzk 0 _ rfl
    have z1 := cell_of_heap hzk 1 _ rfl
    have z2 := fun j => froz_of_heap hzk j
    have HZ := Lib.hid hzk
    clear hBW hbl hzk
    by_cases hqn : q < N
    · have hqn' : (q : Int) < N := by omega
      obtain ⟨b0, o0, e, x0, x1, x2⟩ := ent_at (HR.out.below HBW.out) q (by rw [HN.out]; exact hqn)
      subst e
      obtain ⟨p, hp⟩ : ∃ p, es[q]'(by rw [HN.out]; exact hqn) = p := ⟨_, rfl⟩
      rw [hp] at x0 x1 x2
      have HP := Lib.hid hp
      clear hp
      by_cases hpi : p.1 = i
      · have hgf := geI_first (i := i) (show q < es.length by rw [HN.out]; exact hqn) (by rw [HP.out]; exact hpi) HNO.out
        rw [HP.out] at hgf
        have hkb : getA es i = (p.2, true) := by simp [getA, hgf]
        rw [HG.out] at hkb
        cases hkb
        have eqi : ((p.1 : Int) == (i : Int)) = true := by rw [ibeq]; exact decide_eq_true (by omega)
        clear hgf hpi
        go_wp2_with fail
        have hfin : KyAt ((wr.setCell ⟨w.heap.size, 0, none⟩ (.int .i64 p.2.h)).setCell ⟨w.heap.size, 1, none⟩ (.string ⟨p.2.t.toArray⟩)) w.heap.size 0 p.2 := by
          have h2 := heap_set_same (heap_set_same HZ.out 0 (.int .i64 p.2.h)) 1 (.string ⟨p.2.t.toArray⟩)
          exact ⟨cell_of_heap h2 0 _ rfl, cell_of_heap h2 1 _ rfl⟩
        exact bodyPost_ret (results_rky rfl rfl rfl hfin) rfl ⟨rfl, (HBW.out.setCell (Nat.le_refl _) _).setCell (Nat.le_refl _) _⟩
      · have eqi : ((p.1 : Int) == (i : Int)) = false := by rw [ibeq]; exact decide_eq_false (by omega)
        have HNO2 := Lib.hid (show ∀ r (hr : r < es.length), r < q + 1 → es[r].1 ≠ i from fun r hr hrq => by
          by_cases h' : r < q
          · exact HNO.out r hr h'
          · obtain rfl : r = q := by omega
            rw [HP.out]; exact hpi)
        clear hpi
        go_wp2_with fail
        exact ⟨⟨q + 1, by omega, by go_num, HBL.out, HNO2⟩, by simp [intOf]; omega⟩
    · obtain rfl : q = N := by omega
      have hgn : geI es i = none := geI_none.2 fun p hp => by
        obtain ⟨r, hr, rfl⟩ := List.getElem_of_mem hp
        exact HNO.out r hr (by have := HN.out; omega)
      have hkb : getA es i = (kz, false) := by simp [getA, hgn]
      rw [HG.out] at hkb
      cases hkb
      clear hgn
      go_wp2_with fail
      have hfin : KyAt ((wr.setCell ⟨w.heap.size, 0, none⟩ (.int .i64 0)).setCell ⟨w.heap.size, 1, none⟩ (.string ⟨#[]⟩)) w.heap.size 0 kz := by
        have h2 := heap_set_same (heap_set_same HZ.out 0 (.int .i64 0)) 1 (.string ⟨#[]⟩)
        exact ⟨cell_of_heap h2 0 _ rfl, cell_of_heap h2 1 _ rfl⟩
      exact bodyPost_ret (results_rky rfl rfl rfl hfin) rfl ⟨rfl, (HBW.out.setCell (Nat.le_refl _) _).setCell (Nat.le_refl _) _⟩

set_option maxRecDepth 100000 in
set_option maxHeartbeats 1000000 in
theorem rfindI_calls (a : Nat) (F : List Nat) (es : Is) (k : Ky) (w : World) (h : Rk w a F es) {n : Nat} {b : Bool} (hg : fndA es k = (n, b)) :
    Calls Try.prog 27 #[.pointer (some ⟨a, 0, none⟩), .agg #[.int .i64 k.h, .string ⟨k.t.toArray⟩]] w fun e w' => e = .returned (.tuple #[.int .u32 n, .bool b]) ∧ Below w.heap.size w w' := by
  obtain ⟨A, c, _, _, hr, hc, _, _⟩ := h.row
  have hlt := h.lt
  have HR := Lib.hid hr
  have hm1 := hr.2.1
  have hm2 := hr.2.2.1
  obtain ⟨N, hN⟩ : ∃ N, es.length = N := ⟨_, rfl⟩
  rw [hN] at hc HR hm1
  have HN := Lib.hid hN
  have HG := Lib.hid hg
  have HC := Lib.hid hc
  clear h hr hN hg hc
  go_enter Try.func27, Try.ntmps27
  go_wp2_with fail
  go_loopw [6] (fun u wr => ∃ q : Nat, q ≤ N ∧ u = .int .i64 q ∧ Below (w.heap.size + 1) (w.alloc (.cells #[.int .i64 k.h, .string ⟨k.t.toArray⟩] 63)) wr ∧ Hid (∀ r (hr : r < es.length), r < q → es[r].2 ≠ k)) (fun u _ => N - (intOf u).toNat)
  case atStart => exact ⟨0, by omega, rfl, Below.refl _ _, Lib.hid (fun r _ h => by omega)⟩
  case round =>
    obtain ⟨q, hq, rfl, hbl, HNO⟩ := hrel
    have hBW : Below w.heap.size w wr := (below_alloc w _).trans (hbl.mono (by omega))
    have HBW := Lib.hid hBW
    have HBL := Lib.hid hbl
    have hc := stays_ hBW HC.out
    obtain ⟨z0, z1⟩ := (KyAt.new w k 63).below (show Below _ _ wr from by rw [World.size_alloc]; exact hbl)
    simp only [Nat.zero_add] at z1
    clear hBW hbl
    by_cases hqn : q < N
    · have hqn' : (q : Int) < N := by omega
      obtain ⟨b0, o0, e, x0, x1, x2⟩ := ent_at (HR.out.below HBW.out) q (by rw [HN.out]; exact hqn)
      subst e
      obtain ⟨⟨i, ph, pt⟩, hp⟩ : ∃ p, es[q]'(by rw [HN.out]; exact hqn) = p := ⟨_, rfl⟩
      rw [hp] at x0 x1 x2
      simp only at x0 x1 x2
      have HP := Lib.hid hp
      clear hp
      by_cases hpi : (⟨ph, pt⟩ : Ky) = k
      · have hgf := fiI_first (k := k) (show q < es.length by rw [HN.out]; exact hqn) (by rw [HP.out]; exact hpi) HNO.out
        rw [HP.out] at hgf
        have hkb : fndA es k = (i, true) := by simp [fndA, hgf]
        rw [HG.out] at hkb
        cases hkb
        subst hpi
        clear hgf
        go_wp2_with fail
        go_quiet (fail)
        go_wp2_with fail
        go_ret2
        exact ⟨rfl, bel_dn HBW.out _⟩
      · have hne : ((ph == k.h) = false) ∨ ((ph == k.h) = true ∧ (pt == k.t) = false) := by
          by_cases h1 : ph = k.h
          · refine .inr ⟨by rw [ibeq]; exact decide_eq_true h1, ?_⟩
            rw [lbeq]
            exact decide_eq_false fun h2 => hpi (by rw [h1, h2])
          · exact .inl (by rw [ibeq]; exact decide_eq_false h1)
        have HNO2 := Lib.hid (show ∀ r (hr : r < es.length), r < q + 1 → es[r].2 ≠ k from fun r hr hrq => by
          by_cases h' : r < q
          · exact HNO.out r hr h'
          · obtain rfl : r = q := by omega
            rw [HP.out]; exact hpi)
        clear hpi
        rcases hne with e1 | ⟨e1, e2⟩
        all_goals
          go_wp2_with fail
          go_quiet (fail)
          go_wp2_with fail
          exact ⟨⟨q + 1, by omega, by go_num, bel_dn HBL.out _, HNO2⟩, by simp [intOf]; omega⟩
    · obtain rfl : q = N := by omega
      have hgn : fiI es k = none := fiI_none.2 fun p hp => by
        obtain ⟨r, hr, rfl⟩ := List.getElem_of_mem hp
        exact HNO.out r hr (by have := HN.out; omega)
      have hkb : fndA es k = (0, false) := by simp [fndA, hgn]
      rw [HG.out] at hkb
      cases hkb
      clear hgn
      go_wp2_with fail
      go_ret2
      exact ⟨rfl, HBW.out⟩

set_option maxRecDepth 100000 in
set_option maxHeartbeats 1600000 in
theorem rputI_calls (a : Nat) (F : List Nat) (es : Is) (i : Nat) (k : Ky) (w : World) (h : Rk w a F es) (hb : es.length ≤ 1000000) {n : Nat} {es' : Is} (hp : putI es i k = (n, es')) :
    Calls Try.prog 24 #[.pointer (some ⟨a, 0, none⟩), .int .u32 i, .agg #[.int .i64 k.h, .string ⟨k.t.toArray⟩]] w fun e w' => ∃ F', e = .returned (.int .i64 n) ∧ Rk w' a F' es' ∧ Tch F w w' ∧ ∀ x ∈ F', x ∈ F ∨ w.heap.size ≤ x := by
  have HM := Lib.hid h
  obtain ⟨A, c, h1, ho, hr, hc, hfz, hne⟩ := h.row
  have hlt := h.lt
  have HR := Lib.hid hr
  have HO := Lib.hid ho
  have H1 := Lib.hid h1
  have HNE := Lib.hid hne
  have hm1 := hr.2.1
  have hm2 := hr.2.2.1
  obtain ⟨N, hN⟩ : ∃ N, es.length = N := ⟨_, rfl⟩
  rw [hN] at hc HR hm1 HO H1 HNE
  have HN := Lib.hid hN
  have HC := Lib.hid hc
  have HP := Lib.hid hp
  have hb' : N ≤ 1000000 := by omega
  clear h hr hN hc ho h1 hne hp hb hfz
  go_enter Try.func24, Try.ntmps24
  go_wp2_with fail
  go_loopw [7] (fun u wr => ∃ q : Nat, q ≤ N ∧ u = .int .i64 q ∧ Below (w.heap.size + 1) (w.alloc (.cells #[.int .i64 k.h, .string ⟨k.t.toArray⟩] 63)) wr ∧ Hid (∀ r (hr : r < es.length), r < q → es[r].1 ≠ i ∧ es[r].2 ≠ k)) (fun u _ => N - (intOf u).toNat)
  case atStart => exact ⟨0, by omega, rfl, Below.refl _ _, Lib.hid (fun r _ h => by omega)⟩
  case round =>
    obtain ⟨q, hq, rfl, hbl, HNO⟩ := hrel
    have hBW : Below w.heap.size w wr := (below_alloc w _).trans (hbl.mono (by omega))
    have HBW := Lib.hid hBW
    have HBL := Lib.hid hbl
    have hc := stays_ hBW HC.out
    obtain ⟨z0, z1⟩ := (KyAt.new w k 63).below (show Below _ _ wr from by rw [World.size_alloc]; exact hbl)
    simp only [Nat.zero_add] at z1
    have hzw : w.heap.size < wr.heap.size := by have := hbl.size; simp at this; omega
    clear hBW hbl
    by_cases hqn : q < N
    · have hqn' : (q : Int) < N := by omega
      obtain ⟨b0, o0, e, x0, x1, x2⟩ := ent_at (HR.out.below HBW.out) q (by rw [HN.out]; exact hqn)
      subst e
      obtain ⟨⟨pi, ph, pt⟩, hp⟩ : ∃ p, es[q]'(by rw [HN.out]; exact hqn) = p := ⟨_, rfl⟩
      have hpm : (pi, (⟨ph, pt⟩ : Ky)) ∈ es := by rw [← hp]; exact List.getElem_mem _
      rw [hp] at x0 x1 x2
      simp only at x0 x1 x2
      have HPP := Lib.hid hp
      have HPM := Lib.hid hpm
      clear hp hpm
      by_cases hpi : pi = i
      · have he : putI es i k = (8, es) := by
          have : (geI es i).isSome = true := by
            cases hg : geI es i with
            | none => exact absurd hpi (geI_none.1 hg _ HPM.out)
            | some _ => rfl
          unfold putI
          rw [this]
          rfl
        rw [HP.out] at he
        cases he
        have eqi : ((pi : Int) == (i : Int)) = true := by rw [ibeq]; exact decide_eq_true (by omega)
        clear hpi
        go_wp2_with fail
        go_quiet (fail)
        go_wp2_with fail
        go_ret
        exact ⟨F, rfl, HM.out.below (bel_dn HBW.out _), Tch.of_below F (bel_dn HBW.out _), fun x hx => .inl hx⟩
      · have eqi : ((pi : Int) == (i : Int)) = false := by rw [ibeq]; exact decide_eq_false (by omega)
        by_cases hpk : (⟨ph, pt⟩ : Ky) = k
        · have he : putI es i k = (8, es) := by
            have : (fiI es k).isSome = true := by
              cases hg : fiI es k with
              | none => exact absurd hpk (fiI_none.1 hg _ HPM.out)
              | some _ => rfl
            unfold putI
            rw [this, Bool.or_true]
            rfl
          rw [HP.out] at he
          cases he
          subst hpk
          clear hpi
          go_wp2_with fail
          go_quiet (fail)
          go_wp2_with fail
          go_ret
          exact ⟨F, rfl, HM.out.below (bel_dn HBW.out _), Tch.of_below F (bel_dn HBW.out _), fun x hx => .inl hx⟩
        · have hne : ((ph == k.h) = false) ∨ ((ph == k.h) = true ∧ (pt == k.t) = false) := by
            by_cases h1 : ph = k.h
            · refine .inr ⟨by rw [ibeq]; exact decide_eq_true h1, ?_⟩
              rw [lbeq]
              exact decide_eq_false fun h2 => hpk (by rw [h1, h2])
            · exact .inl (by rw [ibeq]; exact decide_eq_false h1)
          have HNO2 := Lib.hid (show ∀ r (hr : r < es.length), r < q + 1 → es[r].1 ≠ i ∧ es[r].2 ≠ k from fun r hr hrq => by
            by_cases h' : r < q
            · exact HNO.out r hr h'
            · obtain rfl : r = q := by omega
              rw [HPP.out]; exact ⟨hpi, hpk⟩)
          clear hpk hpi
          rcases hne with e1 | ⟨e1, e2⟩
          all_goals
            go_wp2_with fail
            go_quiet (fail)
            go_wp2_with fail
            exact ⟨⟨q + 1, by omega, by go_num, bel_dn HBL.out _, HNO2⟩, by simp [intOf]; omega⟩
    · obtain rfl : q = N := by omega
      have hg1 : geI es i = none := geI_none.2 fun p hp => by
        obtain ⟨r, hr, rfl⟩ := List.getElem_of_mem hp
        exact (HNO.out r hr (by have := HN.out; omega)).1
      have hg2 : fiI es k = none := fiI_none.2 fun p hp => by
        obtain ⟨r, hr, rfl⟩ := List.getElem_of_mem hp
        exact (HNO.out r hr (by have := HN.out; omega)).2
      by_cases hfull : 512 ≤ q
      · have he : putI es i k = (4, es) := by rw [putI, hg1, hg2, if_neg (by simp), if_pos (by rw [HN.out]; exact hfull)]
        rw [HP.out] at he
        cases he
        clear hg1 hg2
        go_wp2_with fail
        go_ret
        exact ⟨F, rfl, HM.out.below HBW.out, Tch.of_below F HBW.out, fun x hx => .inl hx⟩
      · have he : putI es i k = (0, es ++ [(i, k)]) := by rw [putI, hg1, hg2, if_neg (by simp), if_neg (by rw [HN.out]; exact hfull)]
        rw [HP.out] at he
        cases he
        have hfz : wr.frozen? ⟨a, 0, none⟩ = false := froz_of_heap ((HBW.out.block a hlt).trans H1.out) 0
        have HO2 := Lib.hid (HO.out.below HBW.out)
        obtain ⟨i0, hi, hz0, hz1', hz2'⟩ := info_parts Try.info_ent
        have hlta : a < wr.heap.size := by have := HBW.out.size; omega
        clear hg1 hg2
        go_wp2_with fail
        go_region_law (refine wp_appC _ (.tmp 51) (.tmp 55) 60 rfl 0 i0 _ 32 Try.underlying60 hi hz0 hz1' hz2' rfl (by decide) (fun _ _ => trivial) (.slice A q c) q (ents es) rfl ?_ (some ⟨wr.heap.size, 0, none⟩) 1 1 (ec (i, k)) rfl ?_ ?_ ?_ ?_ ?_; (· repeat (first | exact HO2.out | refine OwnC.alloc ?_ _ | refine OwnC.drew ?_)); (· first | exact rdc_box (ec (i, k)) 1 3 rfl (ec_one _) (by decide) | exact (rdc_box (ec (i, k)) 1 3 rfl (ec_one _) (by decide)).below (below_drew _)); (· omega); (· omega); (· simp); (intro v' w' ow gw y1 y2; (try clear y1); obtain ⟨k0, k1, HFIN⟩ := rk_app (w := w) (wr := wr) (a := a) (F := F) (es := es) (p := (i, k)) HBW.out gw ow y2 H1.out HNE.out HM.out.mem HM.out.lts HN.out (by repeat (first | exact Tch.refl _ _ | refine Tch.alloc ?_ _ | refine Tch.drew ?_)); obtain ⟨A2, c2, rfl⟩ := ow.slice; clear ow gw y2))
        all_goals
          go_wp2_with fail
          go_ret
          obtain ⟨F', f1, f2, f3⟩ := HFIN.out
          exact ⟨F', rfl, f1, f2, f3⟩
end Go.Proofs.Ytafmhpcfjmannaa

import Derived.Test.YtklgndmndnmdpaaQAcq
import Derived.Laws.CopyRow
import Derived.LaidEqlPtr
set_option linter.unusedVariables false
set_option linter.unusedSimpArgs false
namespace Go.Proofs.Ytklgndmndnmdpaa
open Go.RowKit

theorem num_at {w : World} {A : Option Addr} {n c : Nat} {ns : List Nat} (h : RdC 1 w A n c (ns.map ev)) (j : Nat) (hj : j < ns.length) : ∃ b o, A = some ⟨b, o, none⟩ ∧ w.cell? ⟨b, o + j, none⟩ = some (.pointer (some ⟨ns[j], 0, none⟩)) := by
  obtain ⟨ad, rfl, h1⟩ := h.cell j (ev ns[j]) (by rw [List.getElem?_map, List.getElem?_eq_getElem hj]; rfl)
  obtain ⟨ad', e, h2⟩ := h.cell 0 (ev (ns[0]'(by omega))) (by rw [List.getElem?_map, List.getElem?_eq_getElem (by omega)]; rfl)
  cases e
  have hs : ad.spot = none := by
    cases hs : ad.spot with
    | none => rfl
    | some s =>
      exfalso
      rw [show ad.add 0 = ad from rfl] at h2
      unfold World.cell? at h2
      simp only [hs] at h2
      split at h2 <;> simp at h2
  obtain ⟨b, o, sp⟩ := ad
  cases hs
  rw [plain_add] at h1
  exact ⟨b, o, rfl, h1⟩
/-- A block of cells. -/
def IsB (w : World) (x : Nat) : Prop := ∃ cs e, w.heap[x]? = some (.cells cs e (0, 0))
theorem Bx.isB {w : World} {b : Nat} {t : TypeId} {cs : List Value} (h : Bx w b t cs) : IsB w b := ⟨_, _, h⟩
theorem IsB.keep {w w' : World} {x : Nat} (h : IsB w x) (hk : w'.heap[x]? = w.heap[x]?) : IsB w' x := by obtain ⟨cs, e, h⟩ := h; exact ⟨cs, e, hk.trans h⟩
theorem IsB.lt {w : World} {x : Nat} (h : IsB w x) : x < w.heap.size := by obtain ⟨cs, e, h⟩ := h; exact heap_lt h
theorem eq_ep (x t : Nat) (w : World) (hx : IsB w x) (ht : IsB w t) : (binOp .eql 143 (.pointer (some ⟨x, 0, none⟩)) (.pointer (some ⟨t, 0, none⟩))).run Try.prog w = .ok (.bool (decide (x = t))) w := by
  have h3 : (Try.prog.info? 145).map (fun i => i.size) = some 8 := by kernel_rfl
  obtain ⟨i, hi, h8⟩ := Option.map_eq_some_iff.1 h3
  by_cases h : x = t
  · subst h
    rw [decide_eq_true rfl]
    exact run_eql_ptr_same w _ Try.underlying143 hi
  · rw [decide_eq_false h]
    obtain ⟨c1, e1, h1⟩ := hx
    obtain ⟨c2, e2, h2⟩ := ht
    refine run_eql_ptr_other w Try.underlying143 hi ?_ (fun e => h (by simp at e)) h1 h2
    omega
set_option maxRecDepth 100000 in
set_option maxHeartbeats 400000 in
theorem same_num (x t : Nat) (b : Nat) (w : World) (h : w.cell? ⟨b, 0, none⟩ = some (ev t)) (hx : IsB w x) (ht : IsB w t) :
    Calls Try.prog 85 #[ev x, .pointer (some ⟨b, 0, none⟩)] w fun e w' => e = .returned (.bool (decide (x = t))) ∧ w = w' := by
  have he := eq_ep x t w hx ht
  unfold ev at h ⊢
  clear hx ht
  go_enter Try.func85, Try.ntmps85
  go_wp2_with fail
  go_ret
  exact ⟨rfl, rfl⟩

/-- Where a number stands first. -/
def whereU (ts : List Nat) (t : Nat) : Int := match ts.findIdx? (fun x => decide (x = t)) with | some i => (i : Int) | none => -1
theorem whereU_at {ts : List Nat} {t : Nat} {k : Nat} (hk : k < ts.length) (h : ts[k] = t) (hb : ∀ j (hj : j < ts.length), j < k → ts[j] ≠ t) : whereU ts t = k := by
  unfold whereU
  have : ts.findIdx? (fun x => decide (x = t)) = some k := by
    rw [List.findIdx?_eq_some_iff_getElem]
    exact ⟨hk, by simpa using h, fun j hj => by simpa using hb j (by omega) hj⟩
  rw [this]
theorem whereU_none {ts : List Nat} {t : Nat} (hb : ∀ j (hj : j < ts.length), ts[j] ≠ t) : whereU ts t = -1 := by
  unfold whereU
  have : ts.findIdx? (fun x => decide (x = t)) = none := by
    rw [List.findIdx?_eq_none_iff]
    intro x hx
    obtain ⟨j, hj, rfl⟩ := List.getElem_of_mem hx
    simpa using hb j hj
  rw [this]

set_option maxRecDepth 100000 in
set_option maxHeartbeats 800000 in
theorem idxd_calls (A : Option Addr) (n c b : Nat) (ts : List Nat) (t : Nat) (w : World) (h : RdC 1 w A n c (ts.map ev)) (hc : w.cell? ⟨b, 0, none⟩ = some (ev t)) (hB : ∀ x ∈ ts, IsB w x) (hT : IsB w t) :
    Calls Try.prog 87 #[.slice A n c, .func (.func 85) #[] #[.pointer (some ⟨b, 0, none⟩)]] w fun e w' => e = .returned (.int .i64 (whereU ts t)) ∧ w = w' := by
  have hl : n = ts.length := by have := h.1; simp at this; omega
  subst hl
  have H := Lib.hid h
  have HC := Lib.hid hc
  have HBs := Lib.hid hB
  have HTb := Lib.hid hT
  have hmx := h.2.2.1
  have hlc := h.2.1
  clear hB hT
  obtain ⟨N, hN⟩ : ∃ N, ts.length = N := ⟨_, rfl⟩
  rw [hN] at hlc ⊢
  have HN := Lib.hid hN
  clear h hc hN
  go_enter Try.func87, Try.ntmps87
  go_wp2_with fail
  go_loopw [5, 8] (fun _ i wr => ∃ k : Nat, k ≤ N ∧ i = .int .i64 k ∧ w = wr ∧ Hid (∀ j (hj : j < ts.length), j < k → ts[j] ≠ t)) (fun _ i _ => N - (intOf i).toNat)
  case atStart => exact ⟨0, by omega, rfl, rfl, Lib.hid (fun j _ hj => by omega)⟩
  case round =>
    obtain ⟨k, hk, rfl, rfl, HB⟩ := hrel
    by_cases hkN : k < N
    · obtain ⟨b0, o0, rfl, g1⟩ := num_at H.out k (by rw [HN.out]; exact hkN)
      obtain ⟨x, hx⟩ : ∃ x, ts[k]'(by rw [HN.out]; exact hkN) = x := ⟨_, rfl⟩
      rw [hx] at g1
      have HX := Lib.hid hx
      have hkN' : (k : Int) < N := by omega
      clear hx
      go_wp2_with fail
      refine (same_num x t b _ HC.out (HBs.out x (by rw [← HX.out]; exact List.getElem_mem _)) HTb.out).mono ?_
      rintro e w1 ⟨rfl, rfl⟩
      by_cases hxt : x = t
      · rw [decide_eq_true hxt]
        have HW := Lib.hid (show whereU ts t = k from whereU_at (by rw [HN.out]; exact hkN) (HX.out.trans hxt) HB.out)
        clear hxt
        go_wp2_with fail
        go_ret
        exact ⟨by rw [HW.out]; rfl, rfl⟩
      · rw [decide_eq_false hxt]
        have HXT := Lib.hid hxt
        clear hxt
        go_wp2_with fail
        refine ⟨⟨k + 1, by omega, by go_num, trivial, Lib.hid (fun j hj hjk => ?_)⟩, by simp [intOf]; omega⟩
        by_cases h' : j < k
        · exact HB.out j hj h'
        · obtain rfl : j = k := by omega
          rw [HX.out]; exact HXT.out
    · obtain rfl : k = N := by omega
      have HW := Lib.hid (show whereU ts t = -1 from whereU_none fun j hj => HB.out j hj (by have := HN.out; omega))
      go_wp2_with fail
      go_ret
      exact ⟨by rw [HW.out]; rfl, rfl⟩
theorem zero_ep (w : World) : (zeroValue 143).run Try.prog w = .ok (Value.pointer none) w := by kernel_rfl
theorem zeros_ep (n : Nat) : (Builtin.zeroCells (Value.pointer none).cells n).toList = List.replicate n (Value.pointer none) := by
  apply List.ext_getElem
  · simp [Builtin.zeroCells, Value.cells, ev]
  · intro i h1 h2
    simp [Builtin.zeroCells, Value.cells, ev, Nat.mod_one]
/-- The built-in clear, on the end of a row. -/
theorem clear_nums {w : World} {g o n c : Nat} {L : List Value} {e : TypeId} (h : w.heap[g]? = some (.cells L.toArray e (0, 0))) (hn : o + n ≤ L.length) (h0 : 0 < n) (ty : TypeId) :
    (Builtin.clear_ #[122] ty #[.slice (some ⟨g, o, none⟩) n c]).run Try.prog w = .ok (.tuple #[]) (w.setRow g (L.take o ++ List.replicate n (Value.pointer none) ++ L.drop (o + n)).toArray) := by
  have hs := run_storeCells_at (P := Try.prog) g o e (List.replicate n (Value.pointer none)) 0 L.toArray w h (by simpa using hn) (by simp [ev, Value.oneCell'])
  simp only [List.length_replicate, Nat.add_zero] at hs
  have hu : (underlying 122).run Try.prog w = .ok (.slice 143) w := run_underlying Try.underlying122 w
  have hz : (Builtin.zeroCells (Value.pointer none).cells n).toList = List.replicate n (Value.pointer none) := zeros_ep n
  cases n with
  | zero => omega
  | succ n =>
    simp [Builtin.clear_, Sem.run_bind, hu, Result.andThen, zero_ep]
    rw [hz, hs]
    simp
theorem size_num (W : World) : (sizeOf (Try.prog.elem 122)).run Try.prog W = .ok 1 W := by kernel_rfl
set_option maxRecDepth 100000 in
theorem nums_from (g n c lo : Nat) (h : lo ≤ n) (hc : n ≤ c) (h2 : lo < c) (W : World) : (Instr.slice 122 (.slice (some ⟨g, 0, none⟩) n c) (some (.int .i64 lo)) none none).run Try.prog W = .ok (.slice (some ⟨g, lo, none⟩) (n - lo) (c - lo)) W := by
  rw [run_slice_l W 122 _ n c Try.underlying122 .i64 lo (by omega) (by omega), size_num]
  simp [Result.andThen, sliced, plain_add]
  intro e
  omega
set_option maxRecDepth 100000 in
theorem nums_to (g n c m : Nat) (h : m ≤ c) (W : World) : (Instr.slice 122 (.slice (some ⟨g, 0, none⟩) n c) none (some (.int .i64 m)) none).run Try.prog W = .ok (.slice (some ⟨g, 0, none⟩) m c) W := by
  rw [run_slice_h W 122 _ n c Try.underlying122 .i64 m (by omega) (by omega), size_num]
  simp [Result.andThen, sliced, plain_add]
theorem row_end (L sp : List Value) (x y : Nat) (z : Value) (hx : x ≤ y) (hl : L.length = y) : (L ++ sp).take x ++ List.replicate (y - x) z ++ (L ++ sp).drop (x + (y - x)) = L.take x ++ (List.replicate (y - x) z ++ sp) := by
  rw [List.take_append_of_le_length (by omega), List.append_assoc, show x + (y - x) = L.length by omega, List.drop_left]
theorem tch_setRow (w : World) (g : Nat) (cs : Array Value) : Tch [g] w (w.setRow g cs) :=
  ⟨rfl, rfl, rfl, by simp [World.setRow], fun k hk hn => setRow_other w g k cs (fun e => hn (by simp [e]))⟩

def dropN (ts : List Nat) (t : Nat) : List Nat := ts.filter fun x => decide (x ≠ t)
def DelNP (v : Value) (ts : List Nat) (t : Nat) (w : World) (e : Ending) (w' : World) : Prop :=
  ∃ v', e = .returned v' ∧ OwnC 143 1 (fun _ => True) w' 0 v' (dropN ts t).length ((dropN ts t).map ev) ∧ v'.ownBlock = v.ownBlock ∧ Tch v.ownBlock.toList w w'
set_option maxRecDepth 100000 in
set_option maxHeartbeats 1000000 in
theorem deln_calls (v : Value) (n b : Nat) (ts : List Nat) (t : Nat) (w : World) (h : OwnC 143 1 (fun _ => True) w 0 v n (ts.map ev)) (hc : w.cell? ⟨b, 0, none⟩ = some (ev t)) (hb : v.ownBlock ≠ some b) (hBs : ∀ x ∈ ts, IsB w x) (hTb : IsB w t) :
    Calls Try.prog 84 #[v, .func (.func 85) #[] #[.pointer (some ⟨b, 0, none⟩)]] w (DelNP v ts t w) := by
  have hl : n = ts.length := by have := h.1; simp at this; omega
  obtain ⟨A, c, rfl, hr⟩ := h.rd
  have H := Lib.hid h
  have HR := Lib.hid hr
  have HC := Lib.hid hc
  have HBs := Lib.hid hBs
  have HTb := Lib.hid hTb
  clear hBs hTb
  have hmx := hr.2.2.1
  have hlc := hr.2.1
  by_cases hin : ∀ x ∈ ts, x ≠ t
  · have hw : whereU ts t = -1 := whereU_none fun j hj => hin _ (List.getElem_mem hj)
    have hf : dropN ts t = ts := by
      unfold dropN
      rw [List.filter_eq_self]
      intro x hx
      simpa using hin x hx
    have HFf := Lib.hid hf
    have HW := Lib.hid hw
    have HL := Lib.hid hl
    clear h hr hc hin hw hf hl
    go_enter Try.func84, Try.ntmps84
    go_wp2_with fail
    refine (idxd_calls A n c b ts t _ HR.out HC.out HBs.out HTb.out).mono ?_
    rintro e w1 ⟨rfl, rfl⟩
    rw [HW.out]
    go_wp2_with fail
    go_ret
    exact ⟨_, rfl, by rw [HFf.out, ← HL.out]; exact H.out, rfl, Tch.refl _ _⟩
  · obtain ⟨pre, post, hts, hpre⟩ : ∃ pre post, ts = pre ++ t :: post ∧ t ∉ pre := List.eq_append_cons_of_mem (by
      have : ∃ x, x ∈ ts ∧ x = t := by
        apply Classical.byContradiction
        intro hh
        exact hin fun x hx e => hh ⟨x, hx, e⟩
      obtain ⟨x, hx, rfl⟩ := this
      exact hx)
    obtain ⟨k0, hk0⟩ : ∃ k0, pre.length = k0 := ⟨_, rfl⟩
    have hk0l : k0 < ts.length := by rw [hts]; simp; omega
    have hw : whereU ts t = k0 := whereU_at hk0l (by subst hts; simp [← hk0]) (by
      intro j hj hjk
      subst hts
      rw [List.getElem_append_left (by omega)]
      intro e
      exact hpre (e ▸ List.getElem_mem _))
    have hn0 : 0 < n := by omega
    obtain ⟨g, cap, e, _, hg, hnc⟩ := h.form hn0
    simp only [Value.slice.injEq, true_and] at e
    obtain ⟨rfl, rfl⟩ := e
    have hbg : b ≠ g := fun e => hb (by rw [e]; rfl)
    have hf0 : ((ts.take (k0 + 1)).filter fun x => decide (x ≠ t)) = pre := by
      subst hts
      rw [← hk0, List.take_append, List.take_of_length_le (by omega), show pre.length + 1 - pre.length = 1 by omega]
      simp
      intro x hx
      exact fun e => hpre (e ▸ hx)
    have HF0 := Lib.hid hf0
    have HW := Lib.hid hw
    have HL := Lib.hid hl
    have HT0 := Lib.hid (show ts.take k0 = pre by subst hts; rw [← hk0, List.take_left])
    have HK0 := Lib.hid hk0
    have hk0n : k0 < n := by omega
    clear h hr hc hin hw hl hts hpre hk0 hk0l hf0 hb
    go_enter Try.func84, Try.ntmps84
    go_wp2_with fail
    refine (idxd_calls _ n c b ts t _ HR.out HC.out HBs.out HTb.out).mono ?_
    rintro e w1 ⟨rfl, rfl⟩
    rw [HW.out]
    have hne1 : ((k0 : Int) == -1) = false := by rw [beq_eq_false_iff_ne]; omega
    go_wp2_with fail
    go_loopw [5, 6, 7] (fun i j _ wr => ∃ (x y : Nat) (L : List Nat), i = .int .i64 x ∧ j = .int .i64 y ∧ x < y ∧ y ≤ n ∧ L.length = n ∧ Hid (L.take x = (ts.take y).filter (fun z => decide (z ≠ t)) ∧ L.drop y = ts.drop y) ∧
      OwnC 143 1 (fun _ => True) wr 0 (.slice (some ⟨g, 0, none⟩) n c) n (L.map ev) ∧ Tch [g] w wr) (fun _ j _ _ => n - (intOf j).toNat)
    case atStart => exact ⟨k0, k0 + 1, ts, rfl, by go_num, by omega, by omega, HL.out.symm, Lib.hid ⟨by rw [HF0.out, HT0.out], rfl⟩, H.out, Tch.refl _ _⟩
    case round =>
      obtain ⟨x, y, L, rfl, rfl, hxy, hyn, hLn, HI, ho, ht⟩ := hrel
      have HO := Lib.hid ho
      have HT := Lib.hid ht
      have HLn := Lib.hid hLn
      clear ho ht
      by_cases hlt : y < n
      · have hyL : y < L.length := by omega
        obtain ⟨z, hz⟩ : ∃ z, L[y] = z := ⟨_, rfl⟩
        obtain ⟨g1, _⟩ := HO.out.cell_at y (ev z) (by rw [List.getElem?_map, List.getElem?_eq_getElem hyL, hz]; rfl)
        obtain ⟨z2, hz2⟩ : ∃ z2, L[x]? = some z2 := ⟨_, List.getElem?_eq_getElem (by omega)⟩
        obtain ⟨g2, g3⟩ := HO.out.cell_at x (ev z2) (by rw [List.getElem?_map, hz2]; rfl)
        have hzt : ts[y]'(by rw [← HL.out]; omega) = z := by
          have h1 := congrArg (fun l => l[0]?) HI.out.2
          simp only [List.getElem?_drop, Nat.add_zero] at h1
          rw [List.getElem?_eq_getElem hyL, List.getElem?_eq_getElem (by rw [← HL.out]; omega), hz] at h1
          exact (Option.some.inj h1).symm
        have HZ := Lib.hid (show L[y]? = some z by rw [List.getElem?_eq_getElem hyL, hz])
        have HZT := Lib.hid (show ts[y]? = some z by rw [List.getElem?_eq_getElem (by rw [← HL.out]; omega), hzt])
        have HCb := Lib.hid (HT.out.cell HC.out (by simpa using hbg))
        have hlt' : (y : Int) < n := by omega
        unfold ev at g1 g2
        clear hz hzt hLn hyL hz2
        go_wp2_with fail
        have hisb : ∀ x, IsB w x → IsB wr x := fun x hx => by
          by_cases hxg : x = g
          · subst hxg
            rcases HO.out.2.2 with ⟨e, _⟩ | ⟨g', cap', sp, e, _, hh, _⟩
            · cases e
            · simp only [Value.slice.injEq, Option.some.injEq, Addr.mk.injEq, true_and, and_true] at e
              obtain ⟨rfl, rfl⟩ := e
              exact ⟨_, _, hh⟩
          · exact hx.keep (HT.out.block x hx.lt (by simpa using hxg))
        refine (same_num z t b _ HCb.out (hisb z (HBs.out z (List.mem_of_getElem? HZT.out))) (hisb t HTb.out)).mono ?_
        rintro e w1 ⟨rfl, rfl⟩
        have htk : ts.take (y + 1) = ts.take y ++ [z] := by
          rw [List.take_add_one, HZT.out]
          rfl
        have hdr : L.drop (y + 1) = ts.drop (y + 1) := by
          have h1 := congrArg (List.drop 1) HI.out.2
          rwa [List.drop_drop, List.drop_drop] at h1
        have HTK := Lib.hid htk
        have HDR := Lib.hid hdr
        clear htk hdr
        by_cases hzt : z = t
        · rw [decide_eq_true hzt]
          have HZ2 := Lib.hid (show (ts.take (y + 1)).filter (fun z => decide (z ≠ t)) = (ts.take y).filter (fun z => decide (z ≠ t)) by
            rw [HTK.out, List.filter_append]
            simp [hzt])
          clear hzt
          go_wp2_with fail
          exact ⟨⟨x, y + 1, L, rfl, by go_num, by omega, by omega, HLn.out, Lib.hid ⟨by rw [HZ2.out]; exact HI.out.1, HDR.out⟩, HO.out, HT.out⟩, by simp [intOf]; omega⟩
        · rw [decide_eq_false hzt]
          have HZ2 := Lib.hid (show (ts.take (y + 1)).filter (fun z => decide (z ≠ t)) = (ts.take y).filter (fun z => decide (z ≠ t)) ++ [z] by
            rw [HTK.out, List.filter_append]
            simp [hzt])
          clear hzt
          go_wp2_with fail
          refine ⟨⟨x + 1, y + 1, L.set x z, by go_num, by go_num, by omega, by omega, by rw [List.length_set]; exact HLn.out, Lib.hid ⟨?_, ?_⟩, ?_, HT.out.setCell _ (by simp)⟩, by simp [intOf]; omega⟩
          · rw [HZ2.out, ← HI.out.1]
            rw [List.take_add_one, List.take_set_of_le (by omega)]
            rw [List.getElem?_set_self (by rw [HLn.out]; omega)]
            rfl
          · rw [List.drop_set_of_lt (by omega)]
            exact HDR.out
          · have := HO.out.set_cell x (by omega) (ev z) rfl
            rw [List.map_set]
            exact this
      · obtain rfl : y = n := by omega
        have hfil : L.take x = ts.filter (fun z => decide (z ≠ t)) := by
          have h1 := HI.out.1
          have h2 : ts.take y = ts := by rw [HL.out, List.take_length]
          rwa [h2] at h1
        rcases HO.out.2.2 with ⟨e, _⟩ | ⟨g', cap', sp, e, _, hh, hsp, _, _, _⟩
        · cases e
        · simp only [Value.slice.injEq, Option.some.injEq, Addr.mk.injEq, true_and, and_true] at e
          obtain ⟨rfl, rfl⟩ := e
          have hcl := clear_nums (o := x) (n := y - x) (c := c - x) hh (by simp; omega) (by omega)
          have hs1 := nums_from g y c x (by omega) (by omega) (by omega)
          have hs2 := nums_to g y c x (by omega)
          obtain ⟨R, hR⟩ : ∃ R, (L.map ev ++ sp).take x ++ List.replicate (y - x) (Value.pointer none) ++ (L.map ev ++ sp).drop (x + (y - x)) = R := ⟨_, rfl⟩
          rw [hR] at hcl
          have HRr := Lib.hid (show R = (ts.filter fun z => decide (z ≠ t)).map ev ++ (List.replicate (y - x) (Value.pointer none) ++ sp) by
            rw [← hR, row_end (L.map ev) sp x y _ (by omega) (by simpa using HLn.out), ← hfil, List.map_take])
          have HFL := Lib.hid (show (ts.filter fun z => decide (z ≠ t)).length = x by rw [← hfil, List.length_take]; omega)
          have HH := Lib.hid hh
          have HSP := Lib.hid hsp
          clear hR hfil hh hsp
          go_wp2_with fail
          go_ret
          refine ⟨.slice (some ⟨g, 0, none⟩) x c, rfl, ?_, rfl, HT.out.trans_ (tch_setRow wr g _)⟩
          rw [show (dropN ts t).length = x from HFL.out]
          refine ⟨by rw [List.length_map, show (dropN ts t).length = x from HFL.out]; omega, (by simp [ev, Value.oneCell']), .inr ⟨g, c, List.replicate (y - x) (Value.pointer none) ++ sp, rfl, by omega, ?_, ?_, by omega, hmx, fun _ _ => trivial⟩⟩
          · rw [show (dropN ts t).map ev ++ (List.replicate (y - x) (Value.pointer none) ++ sp) = R from HRr.out.symm]
            exact setRow_heap wr g _ _ _ _ HH.out
          · have := HSP.out
            simp
            omega
end Go.Proofs.Ytklgndmndnmdpaa

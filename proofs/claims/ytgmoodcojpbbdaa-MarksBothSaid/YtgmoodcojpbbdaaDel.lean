import Derived.Test.YtgmoodcojpbbdaaMk2
import Derived.Laws.CopyRow
set_option linter.unusedVariables false
set_option linter.unusedSimpArgs false
namespace Go.Proofs.Ytgmoodcojpbbdaa
open Go.RowKit

theorem lbeq (x t : List UInt8) : (x == t) = decide (x = t) := by
  by_cases h : x = t
  · subst h; simp
  · simp [h]
set_option maxHeartbeats 400000 in
theorem same_tag (x t : List UInt8) (b : Nat) (w : World) (h : w.cell? ⟨b, 0, none⟩ = some (str t)) :
    Calls Try.prog 38 #[str x, .pointer (some ⟨b, 0, none⟩)] w fun e w' => e = .returned (.bool (decide (x = t))) ∧ w = w' := by
  unfold str at h ⊢
  go_enter Try.func38, Try.ntmps38
  go_wp2
  go_ret
  refine ⟨?_, rfl⟩
  rw [← lbeq]
  rfl

/-- A slice of tags, read. -/
theorem tag_at {w : World} {A : Option Addr} {n c : Nat} {ts : List (List UInt8)} (h : RdC 1 w A n c (ts.map str)) (j : Nat) (hj : j < ts.length) : ∃ b o, A = some ⟨b, o, none⟩ ∧ w.cell? ⟨b, o + j, none⟩ = some (.string ⟨(ts[j]).toArray⟩) := by
  obtain ⟨ad, rfl, h1⟩ := h.cell j (str ts[j]) (by rw [List.getElem?_map, List.getElem?_eq_getElem hj]; rfl)
  obtain ⟨ad', e, h2⟩ := h.cell 0 (str (ts[0]'(by omega))) (by rw [List.getElem?_map, List.getElem?_eq_getElem (by omega)]; rfl)
  cases e
  have hs : ad.spot = none := by
    cases hs : ad.spot with
    | none => rfl
    | some s =>
      exfalso
      rw [show ad.add 0 = ad from rfl] at h2
      unfold World.cell? at h2
      simp only [hs] at h2
      split at h2 <;> simp at h2
  obtain ⟨b, o, sp⟩ := ad
  cases hs
  rw [plain_add] at h1
  exact ⟨b, o, rfl, h1⟩

/-- Where a tag stands first. -/
def whereT (ts : List (List UInt8)) (t : List UInt8) : Int := match ts.findIdx? (fun x => decide (x = t)) with | some i => (i : Int) | none => -1
theorem where_at {ts : List (List UInt8)} {t : List UInt8} {k : Nat} (hk : k < ts.length) (h : ts[k] = t) (hb : ∀ j (hj : j < ts.length), j < k → ts[j] ≠ t) : whereT ts t = k := by
  unfold whereT
  have : ts.findIdx? (fun x => decide (x = t)) = some k := by
    rw [List.findIdx?_eq_some_iff_getElem]
    exact ⟨hk, by simpa using h, fun j hj => by simpa using hb j (by omega) hj⟩
  rw [this]
theorem where_none {ts : List (List UInt8)} {t : List UInt8} (hb : ∀ j (hj : j < ts.length), ts[j] ≠ t) : whereT ts t = -1 := by
  unfold whereT
  have : ts.findIdx? (fun x => decide (x = t)) = none := by
    rw [List.findIdx?_eq_none_iff]
    intro x hx
    obtain ⟨j, hj, rfl⟩ := List.getElem_of_mem hx
    simpa using hb j hj
  rw [this]

set_option maxHeartbeats 800000 in
theorem idx_calls (A : Option Addr) (n c b : Nat) (ts : List (List UInt8)) (t : List UInt8) (w : World) (h : RdC 1 w A n c (ts.map str)) (hc : w.cell? ⟨b, 0, none⟩ = some (str t)) :
    Calls Try.prog 41 #[.slice A n c, .func (.func 38) #[] #[.pointer (some ⟨b, 0, none⟩)]] w fun e w' => e = .returned (.int .i64 (whereT ts t)) ∧ w = w' := by
  have hl : n = ts.length := by have := h.1; simp at this; omega
  subst hl
  have H := Lib.hid h
  have HC := Lib.hid hc
  have hmx := h.2.2.1
  have hlc := h.2.1
  obtain ⟨N, hN⟩ : ∃ N, ts.length = N := ⟨_, rfl⟩
  rw [hN] at hlc ⊢
  have HN := Lib.hid hN
  clear h hc hN
  go_enter Try.func41, Try.ntmps41
  go_wp2_with fail
  go_loopw [5, 8] (fun _ i wr => ∃ k : Nat, k ≤ N ∧ i = .int .i64 k ∧ w = wr ∧ Hid (∀ j (hj : j < ts.length), j < k → ts[j] ≠ t)) (fun _ i _ => N - (intOf i).toNat)
  case atStart => exact ⟨0, by omega, rfl, rfl, Lib.hid (fun j _ hj => by omega)⟩
  case round =>
    obtain ⟨k, hk, rfl, rfl, HB⟩ := hrel
    by_cases hkN : k < N
    · obtain ⟨b0, o0, rfl, g1⟩ := tag_at H.out k (by rw [HN.out]; exact hkN)
      obtain ⟨x, hx⟩ : ∃ x, ts[k]'(by rw [HN.out]; exact hkN) = x := ⟨_, rfl⟩
      rw [hx] at g1
      have HX := Lib.hid hx
      have hkN' : (k : Int) < N := by omega
      clear hx
      go_wp2_with fail
      refine (same_tag x t b _ HC.out).mono ?_
      rintro e w1 ⟨rfl, rfl⟩
      by_cases hxt : x = t
      · rw [decide_eq_true hxt]
        have HW := Lib.hid (show whereT ts t = k from where_at (by rw [HN.out]; exact hkN) (HX.out.trans hxt) HB.out)
        clear hxt
        go_wp2_with fail
        go_ret
        exact ⟨by rw [HW.out]; rfl, rfl⟩
      · rw [decide_eq_false hxt]
        have HXT := Lib.hid hxt
        clear hxt
        go_wp2_with fail
        refine ⟨⟨k + 1, by omega, by go_num, trivial, Lib.hid (fun j hj hjk => ?_)⟩, by simp [intOf]; omega⟩
        by_cases h' : j < k
        · exact HB.out j hj h'
        · obtain rfl : j = k := by omega
          rw [HX.out]; exact HXT.out
    · obtain rfl : k = N := by omega
      have HW := Lib.hid (show whereT ts t = -1 from where_none fun j hj => HB.out j hj (by have := HN.out; omega))
      go_wp2_with fail
      go_ret
      exact ⟨by rw [HW.out]; rfl, rfl⟩
theorem zero_str (w : World) : (zeroValue 9).run Try.prog w = .ok (str []) w := by kernel_rfl
theorem zeros_str (n : Nat) : (Builtin.zeroCells (str []).cells n).toList = List.replicate n (str []) := by
  apply List.ext_getElem
  · simp [Builtin.zeroCells, Value.cells, str]
  · intro i h1 h2
    simp [Builtin.zeroCells, Value.cells, str, Nat.mod_one]
/-- The built-in clear, on the end of a row. -/
theorem clear_tags {w : World} {g o n c : Nat} {L : List Value} {e : TypeId} (h : w.heap[g]? = some (.cells L.toArray e (0, 0))) (hn : o + n ≤ L.length) (h0 : 0 < n) (ty : TypeId) :
    (Builtin.clear_ #[35] ty #[.slice (some ⟨g, o, none⟩) n c]).run Try.prog w = .ok (.tuple #[]) (w.setRow g (L.take o ++ List.replicate n (str []) ++ L.drop (o + n)).toArray) := by
  have hs := run_storeCells_at (P := Try.prog) g o e (List.replicate n (str [])) 0 L.toArray w h (by simpa using hn) (by simp [str, Value.oneCell'])
  simp only [List.length_replicate, Nat.add_zero] at hs
  have hu : (underlying 35).run Try.prog w = .ok (.slice 9) w := run_underlying Try.underlying35 w
  have hz : (Builtin.zeroCells (Value.string { data := #[] }).cells n).toList = List.replicate n (str []) := zeros_str n
  cases n with
  | zero => omega
  | succ n =>
    simp [Builtin.clear_, Sem.run_bind, hu, Result.andThen, zero_str]
    rw [hz, hs]
    simp
theorem size_tag (W : World) : (sizeOf (Try.prog.elem 35)).run Try.prog W = .ok 1 W := by kernel_rfl
theorem tags_from (g n c lo : Nat) (h : lo ≤ n) (hc : n ≤ c) (h2 : lo < c) (W : World) : (Instr.slice 35 (.slice (some ⟨g, 0, none⟩) n c) (some (.int .i64 lo)) none none).run Try.prog W = .ok (.slice (some ⟨g, lo, none⟩) (n - lo) (c - lo)) W := by
  rw [run_slice_l W 35 _ n c Try.underlying35 .i64 lo (by omega) (by omega), size_tag]
  simp [Result.andThen, sliced, plain_add]
  intro e
  omega
theorem tags_to (g n c m : Nat) (h : m ≤ c) (W : World) : (Instr.slice 35 (.slice (some ⟨g, 0, none⟩) n c) none (some (.int .i64 m)) none).run Try.prog W = .ok (.slice (some ⟨g, 0, none⟩) m c) W := by
  rw [run_slice_h W 35 _ n c Try.underlying35 .i64 m (by omega) (by omega), size_tag]
  simp [Result.andThen, sliced, plain_add]
theorem row_end (L sp : List Value) (x y : Nat) (z : Value) (hx : x ≤ y) (hl : L.length = y) : (L ++ sp).take x ++ List.replicate (y - x) z ++ (L ++ sp).drop (x + (y - x)) = L.take x ++ (List.replicate (y - x) z ++ sp) := by
  rw [List.take_append_of_le_length (by omega), List.append_assoc, show x + (y - x) = L.length by omega, List.drop_left]
theorem tch_setRow (w : World) (g : Nat) (cs : Array Value) : Tch [g] w (w.setRow g cs) :=
  ⟨rfl, rfl, rfl, by simp [World.setRow], fun k hk hn => setRow_other w g k cs (fun e => hn (by simp [e]))⟩

def dropT (ts : List (List UInt8)) (t : List UInt8) : List (List UInt8) := ts.filter fun x => decide (x ≠ t)
def DelPost (v : Value) (ts : List (List UInt8)) (t : List UInt8) (w : World) (e : Ending) (w' : World) : Prop :=
  ∃ v', e = .returned v' ∧ OwnC 9 1 (fun _ => True) w' 0 v' (dropT ts t).length ((dropT ts t).map str) ∧ v'.ownBlock = v.ownBlock ∧ Tch v.ownBlock.toList w w'
set_option maxHeartbeats 1000000 in
theorem del_calls (v : Value) (n b : Nat) (ts : List (List UInt8)) (t : List UInt8) (w : World) (h : OwnC 9 1 (fun _ => True) w 0 v n (ts.map str)) (hc : w.cell? ⟨b, 0, none⟩ = some (str t)) (hb : v.ownBlock ≠ some b) :
    Calls Try.prog 37 #[v, .func (.func 38) #[] #[.pointer (some ⟨b, 0, none⟩)]] w (DelPost v ts t w) := by
  have hl : n = ts.length := by have := h.1; simp at this; omega
  obtain ⟨A, c, rfl, hr⟩ := h.rd
  have H := Lib.hid h
  have HR := Lib.hid hr
  have HC := Lib.hid hc
  have hmx := hr.2.2.1
  have hlc := hr.2.1
  by_cases hin : ∀ x ∈ ts, x ≠ t
  · have hw : whereT ts t = -1 := where_none fun j hj => hin _ (List.getElem_mem hj)
    have hf : dropT ts t = ts := by
      unfold dropT
      rw [List.filter_eq_self]
      intro x hx
      simpa using hin x hx
    have HFf := Lib.hid hf
    have HW := Lib.hid hw
    have HL := Lib.hid hl
    clear h hr hc hin hw hf hl
    go_enter Try.func37, Try.ntmps37
    go_wp2_with fail
    refine (idx_calls A n c b ts t _ HR.out HC.out).mono ?_
    rintro e w1 ⟨rfl, rfl⟩
    rw [HW.out]
    go_wp2_with fail
    go_ret
    exact ⟨_, rfl, by rw [HFf.out, ← HL.out]; exact H.out, rfl, Tch.refl _ _⟩
  · obtain ⟨pre, post, hts, hpre⟩ : ∃ pre post, ts = pre ++ t :: post ∧ t ∉ pre := List.eq_append_cons_of_mem (by
      have : ∃ x, x ∈ ts ∧ x = t := by
        apply Classical.byContradiction
        intro hh
        exact hin fun x hx e => hh ⟨x, hx, e⟩
      obtain ⟨x, hx, rfl⟩ := this
      exact hx)
    obtain ⟨k0, hk0⟩ : ∃ k0, pre.length = k0 := ⟨_, rfl⟩
    have hk0l : k0 < ts.length := by rw [hts]; simp; omega
    have hw : whereT ts t = k0 := where_at hk0l (by subst hts; simp [← hk0]) (by
      intro j hj hjk
      subst hts
      rw [List.getElem_append_left (by omega)]
      intro e
      exact hpre (e ▸ List.getElem_mem _))
    have hn0 : 0 < n := by omega
    obtain ⟨g, cap, e, _, hg, hnc⟩ := h.form hn0
    simp only [Value.slice.injEq, true_and] at e
    obtain ⟨rfl, rfl⟩ := e
    have hbg : b ≠ g := fun e => hb (by rw [e]; rfl)
    have hf0 : ((ts.take (k0 + 1)).filter fun x => decide (x ≠ t)) = pre := by
      subst hts
      rw [← hk0, List.take_append, List.take_of_length_le (by omega), show pre.length + 1 - pre.length = 1 by omega]
      simp
      intro x hx
      exact fun e => hpre (e ▸ hx)
    have HF0 := Lib.hid hf0
    have HW := Lib.hid hw
    have HL := Lib.hid hl
    have HT0 := Lib.hid (show ts.take k0 = pre by subst hts; rw [← hk0, List.take_left])
    have HK0 := Lib.hid hk0
    have hk0n : k0 < n := by omega
    clear h hr hc hin hw hl hts hpre hk0 hk0l hf0 hb
    go_enter Try.func37, Try.ntmps37
    go_wp2_with fail
    refine (idx_calls _ n c b ts t _ HR.out HC.out).mono ?_
    rintro e w1 ⟨rfl, rfl⟩
    rw [HW.out]
    have hne1 : ((k0 : Int) == -1) = false := by rw [beq_eq_false_iff_ne]; omega
    go_wp2_with fail
    go_loopw [5, 6, 7] (fun i j _ wr => ∃ (x y : Nat) (L : List (List UInt8)), i = .int .i64 x ∧ j = .int .i64 y ∧ x < y ∧ y ≤ n ∧ L.length = n ∧ Hid (L.take x = (ts.take y).filter (fun z => decide (z ≠ t)) ∧ L.drop y = ts.drop y) ∧
      OwnC 9 1 (fun _ => True) wr 0 (.slice (some ⟨g, 0, none⟩) n c) n (L.map str) ∧ Tch [g] w wr) (fun _ j _ _ => n - (intOf j).toNat)
    case atStart => exact ⟨k0, k0 + 1, ts, rfl, by go_num, by omega, by omega, HL.out.symm, Lib.hid ⟨by rw [HF0.out, HT0.out], rfl⟩, H.out, Tch.refl _ _⟩
    case round =>
      obtain ⟨x, y, L, rfl, rfl, hxy, hyn, hLn, HI, ho, ht⟩ := hrel
      have HO := Lib.hid ho
      have HT := Lib.hid ht
      have HLn := Lib.hid hLn
      clear ho ht
      by_cases hlt : y < n
      · have hyL : y < L.length := by omega
        obtain ⟨z, hz⟩ : ∃ z, L[y] = z := ⟨_, rfl⟩
        obtain ⟨g1, _⟩ := HO.out.cell_at y (str z) (by rw [List.getElem?_map, List.getElem?_eq_getElem hyL, hz]; rfl)
        obtain ⟨z2, hz2⟩ : ∃ z2, L[x]? = some z2 := ⟨_, List.getElem?_eq_getElem (by omega)⟩
        obtain ⟨g2, g3⟩ := HO.out.cell_at x (str z2) (by rw [List.getElem?_map, hz2]; rfl)
        have hzt : ts[y]'(by rw [← HL.out]; omega) = z := by
          have h1 := congrArg (fun l => l[0]?) HI.out.2
          simp only [List.getElem?_drop, Nat.add_zero] at h1
          rw [List.getElem?_eq_getElem hyL, List.getElem?_eq_getElem (by rw [← HL.out]; omega), hz] at h1
          exact (Option.some.inj h1).symm
        have HZ := Lib.hid (show L[y]? = some z by rw [List.getElem?_eq_getElem hyL, hz])
        have HZT := Lib.hid (show ts[y]? = some z by rw [List.getElem?_eq_getElem (by rw [← HL.out]; omega), hzt])
        have HCb := Lib.hid (HT.out.cell HC.out (by simpa using hbg))
        have hlt' : (y : Int) < n := by omega
        unfold str at g1 g2
        clear hz hzt hLn hyL hz2
        go_wp2_with fail
        refine (same_tag z t b _ HCb.out).mono ?_
        rintro e w1 ⟨rfl, rfl⟩
        have htk : ts.take (y + 1) = ts.take y ++ [z] := by
          rw [List.take_add_one, HZT.out]
          rfl
        have hdr : L.drop (y + 1) = ts.drop (y + 1) := by
          have h1 := congrArg (List.drop 1) HI.out.2
          rwa [List.drop_drop, List.drop_drop] at h1
        have HTK := Lib.hid htk
        have HDR := Lib.hid hdr
        clear htk hdr
        by_cases hzt : z = t
        · rw [decide_eq_true hzt]
          have HZ2 := Lib.hid (show (ts.take (y + 1)).filter (fun z => decide (z ≠ t)) = (ts.take y).filter (fun z => decide (z ≠ t)) by
            rw [HTK.out, List.filter_append]
            simp [hzt])
          clear hzt
          go_wp2_with fail
          exact ⟨⟨x, y + 1, L, rfl, by go_num, by omega, by omega, HLn.out, Lib.hid ⟨by rw [HZ2.out]; exact HI.out.1, HDR.out⟩, HO.out, HT.out⟩, by simp [intOf]; omega⟩
        · rw [decide_eq_false hzt]
          have HZ2 := Lib.hid (show (ts.take (y + 1)).filter (fun z => decide (z ≠ t)) = (ts.take y).filter (fun z => decide (z ≠ t)) ++ [z] by
            rw [HTK.out, List.filter_append]
            simp [hzt])
          clear hzt
          go_wp2_with fail
          refine ⟨⟨x + 1, y + 1, L.set x z, by go_num, by go_num, by omega, by omega, by rw [List.length_set]; exact HLn.out, Lib.hid ⟨?_, ?_⟩, ?_, HT.out.setCell _ (by simp)⟩, by simp [intOf]; omega⟩
          · rw [HZ2.out, ← HI.out.1]
            rw [List.take_add_one, List.take_set_of_le (by omega)]
            rw [List.getElem?_set_self (by rw [HLn.out]; omega)]
            rfl
          · rw [List.drop_set_of_lt (by omega)]
            exact HDR.out
          · have := HO.out.set_cell x (by omega) (str z) rfl
            rw [List.map_set]
            exact this
      · obtain rfl : y = n := by omega
        have hfil : L.take x = ts.filter (fun z => decide (z ≠ t)) := by
          have h1 := HI.out.1
          have h2 : ts.take y = ts := by rw [HL.out, List.take_length]
          rwa [h2] at h1
        rcases HO.out.2.2 with ⟨e, _⟩ | ⟨g', cap', sp, e, _, hh, hsp, _, _, _⟩
        · cases e
        · simp only [Value.slice.injEq, Option.some.injEq, Addr.mk.injEq, true_and, and_true] at e
          obtain ⟨rfl, rfl⟩ := e
          have hcl := clear_tags (o := x) (n := y - x) (c := c - x) hh (by simp; omega) (by omega)
          have hs1 := tags_from g y c x (by omega) (by omega) (by omega)
          have hs2 := tags_to g y c x (by omega)
          obtain ⟨R, hR⟩ : ∃ R, (L.map str ++ sp).take x ++ List.replicate (y - x) (str []) ++ (L.map str ++ sp).drop (x + (y - x)) = R := ⟨_, rfl⟩
          rw [hR] at hcl
          have HRr := Lib.hid (show R = (ts.filter fun z => decide (z ≠ t)).map str ++ (List.replicate (y - x) (str []) ++ sp) by
            rw [← hR, row_end (L.map str) sp x y _ (by omega) (by simpa using HLn.out), ← hfil, List.map_take])
          have HFL := Lib.hid (show (ts.filter fun z => decide (z ≠ t)).length = x by rw [← hfil, List.length_take]; omega)
          have HH := Lib.hid hh
          have HSP := Lib.hid hsp
          clear hR hfil hh hsp
          go_wp2_with fail
          go_ret
          refine ⟨.slice (some ⟨g, 0, none⟩) x c, rfl, ?_, rfl, HT.out.trans_ (tch_setRow wr g _)⟩
          rw [show (dropT ts t).length = x from HFL.out]
          refine ⟨by rw [List.length_map, show (dropT ts t).length = x from HFL.out]; omega, (by simp [str, Value.oneCell']), .inr ⟨g, c, List.replicate (y - x) (str []) ++ sp, rfl, by omega, ?_, ?_, by omega, hmx, fun _ _ => trivial⟩⟩
          · rw [show (dropT ts t).map str ++ (List.replicate (y - x) (str []) ++ sp) = R from HRr.out.symm]
            exact setRow_heap wr g _ _ _ _ HH.out
          · have := HSP.out
            simp
            omega
end Go.Proofs.Ytgmoodcojpbbdaa

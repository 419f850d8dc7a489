import Derived.Test.YtafmhpcfjmannaaIkDrop
set_option linter.unusedVariables false
set_option linter.unusedSimpArgs false
namespace Go.Proofs.Ytafmhpcfjmannaa
open Go.RowKit

theorem wrap_stp (a b : Nat) (ha : a < 4294967296) (hb : b < 4294967296) : IntKind.u32.wrap ((b : Int) - a) = (stp a b : Nat) := by
  have h1 : IntKind.u32.wrap ((b : Int) - a) = ((b : Int) - a) % 4294967296 := rfl
  rw [h1]
  unfold stp
  omega
theorem stp_lt (a b : Nat) : stp a b < 4294967296 := by unfold stp; omega
set_option maxHeartbeats 400000 in
theorem steps_calls (a b : Nat) (w : World) (ha : a < 4294967296) (hb : b < 4294967296) :
    Calls Try.prog 37 #[.int .u32 a, .int .u32 b] w fun e w' => e = .returned (.int .u32 (stp a b : Nat)) ∧ w = w' := by
  have H := Lib.hid (wrap_stp a b ha hb)
  go_enter Try.func37, Try.ntmps37
  go_wp2
  go_ret
  refine ⟨?_, rfl⟩
  rw [← H.out]
  rfl
set_option maxHeartbeats 400000 in
theorem near_calls (n : Nat) (w : World) (hn : n < 4294967296) :
    Calls Try.prog 38 #[.int .u32 n] w fun e w' => e = .returned (.bool (decide (n < 2147483648))) ∧ w = w' := by
  go_enter Try.func38, Try.ntmps38
  go_wp2
  go_ret
  refine ⟨?_, rfl⟩
  have e : bits BinOp.xor IntKind.u32 IntKind.u32.max 0 / 2 = 2147483647 := by decide +kernel
  have e2 : decide ((n : Int) ≤ bits BinOp.xor IntKind.u32 IntKind.u32.max 0 / 2) = decide (n < 2147483648) := by
    rw [e]
    by_cases h : n < 2147483648
    · rw [decide_eq_true h]; exact decide_eq_true (by omega)
    · rw [decide_eq_false h]; exact decide_eq_false (by omega)
  rw [← e2]
  rfl
theorem near_any (n : Nat) (w : World) (hn : n < 4294967296) {b : Bool} (hb : decide (n < 2147483648) = b) :
    Calls Try.prog 38 #[.int .u32 n] w fun e w' => e = .returned (.bool b) ∧ w = w' := by
  subst hb
  exact near_calls n w hn
/-- How many numbers there are from one to another one. -/
def spn (a b : Nat) : Nat × Bool := if stp a b < 2147483648 then (stp a b + 1, true) else (0, false)
theorem spn_ex (a b : Nat) : ∃ n q, spn a b = (n, q) := by
  cases h : spn a b with
  | mk n q => exact ⟨n, q, rfl⟩
set_option maxHeartbeats 400000 in
theorem span_calls (a b : Nat) (w : World) (ha : a < 4294967296) (hb : b < 4294967296) {n : Nat} {q : Bool} (h : spn a b = (n, q)) :
    Calls Try.prog 30 #[.int .u32 a, .int .u32 b] w fun e w' => e = .returned (.tuple #[.int .i64 n, .bool q]) ∧ w = w' := by
  obtain ⟨s, hs⟩ : ∃ s, stp a b = s := ⟨_, rfl⟩
  have hsl := stp_lt a b
  rw [hs] at hsl
  unfold spn at h
  rw [hs] at h
  have HS := Lib.hid hs
  clear hs
  by_cases hn : s < 2147483648
  · rw [if_pos hn] at h
    cases h
    go_enter Try.func30, Try.ntmps30
    go_wp2_with fail
    refine (steps_calls a b _ ha hb).mono ?_
    rintro e w1 ⟨rfl, rfl⟩
    rw [HS.out]
    go_wp2_with fail
    refine (near_any s _ hsl (decide_eq_true hn)).mono ?_
    rintro e w1 ⟨rfl, rfl⟩
    go_wp2_with fail
    go_ret2
    exact ⟨by simp, rfl⟩
  · rw [if_neg hn] at h
    cases h
    go_enter Try.func30, Try.ntmps30
    go_wp2_with fail
    refine (steps_calls a b _ ha hb).mono ?_
    rintro e w1 ⟨rfl, rfl⟩
    rw [HS.out]
    go_wp2_with fail
    refine (near_any s _ hsl (decide_eq_false hn)).mono ?_
    rintro e w1 ⟨rfl, rfl⟩
    go_wp2_with fail
    go_ret2
    exact ⟨by simp, rfl⟩
set_option maxHeartbeats 400000 in
theorem in_calls (x f n : Nat) (w : World) (hx : x < 4294967296) (hf : f < 4294967296) {q : Bool} (h : decide (stp f x < n) = q) :
    Calls Try.prog 31 #[.int .u32 x, .int .u32 f, .int .i64 n] w fun e w' => e = .returned (.bool q) ∧ w = w' := by
  obtain ⟨s, hs⟩ : ∃ s, stp f x = s := ⟨_, rfl⟩
  have hsl := stp_lt f x
  rw [hs] at hsl h
  have HS := Lib.hid hs
  have HH := Lib.hid h
  clear hs h
  go_enter Try.func31, Try.ntmps31
  go_wp2_with fail
  refine (steps_calls f x _ hf hx).mono ?_
  rintro e w1 ⟨rfl, rfl⟩
  rw [HS.out]
  go_wp2_with fail
  go_ret
  refine ⟨?_, rfl⟩
  rw [← HH.out]
  rfl

set_option maxHeartbeats 400000 in
theorem rangeI_nil (f l : Nat) (w : World) (hf : f < 4294967296) (hl : l < 4294967296) :
    Calls Try.prog 18 #[.pointer none, .int .u32 f, .int .u32 l] w fun e w' => e = .returned (.slice none 0 0) ∧ w = w' := by
  obtain ⟨n, q, hs⟩ : ∃ n q, spn f l = (n, q) := spn_ex f l
  have HS := Lib.hid hs
  clear hs
  go_enter Try.func18, Try.ntmps18
  go_wp2_with fail
  refine (span_calls f l _ hf hl HS.out).mono ?_
  rintro e w1 ⟨rfl, rfl⟩
  go_wp2_with fail
  go_ret
  exact ⟨rfl, rfl⟩
/-- A row of numbers that was made since. -/
def OwnN (w : World) (base : Nat) (v : Value) (l : List Nat) : Prop := OwnC 33 1 (fun _ => True) w base v l.length (l.map uv)
def NumPost (l : List Nat) (w : World) (e : Ending) (w' : World) : Prop := ∃ v, e = .returned v ∧ OwnN w' w.heap.size v l ∧ Below w.heap.size w w'
theorem filt_snoc (es : Is) (q : Nat → Bool) (k : Nat) (hk : k < es.length) : (((es.take (k + 1)).filter fun p => q p.1).map (·.1)) = if q es[k].1 then (((es.take k).filter fun p => q p.1).map (·.1)) ++ [es[k].1] else (((es.take k).filter fun p => q p.1).map (·.1)) := by
  rw [List.take_succ_eq_append_getElem hk, List.filter_append, List.map_append]
  by_cases h : q es[k].1 = true <;> simp [h]
/-- Numbers of 32 bits. -/
def Small (es : Is) : Prop := ∀ p ∈ es, p.1 < 4294967296

set_option maxRecDepth 100000 in
set_option maxHeartbeats 1000000 in
theorem rangeI_calls (a : Nat) (F : List Nat) (es : Is) (f l : Nat) (w : World) (h : Ik w a F es) (hb : es.length ≤ 1000000) (hf : f < 4294967296) (hl : l < 4294967296) (hsm : Small es) :
    Calls Try.prog 18 #[.pointer (some ⟨a, 0, none⟩), .int .u32 f, .int .u32 l] w (NumPost (rangeI es f l) w) := by
  have HM := Lib.hid h
  have hlt := h.lt
  obtain ⟨r, A, c, hc0, hc1, hr, hlk⟩ := h.look
  have HR := Lib.hid hr
  have HSM := Lib.hid hsm
  have hmx := hr.2.2.1
  have hlc := hr.2.1
  obtain ⟨N, hN⟩ : ∃ N, es.length = N := ⟨_, rfl⟩
  rw [hN] at hc1 hlc hb
  have HN := Lib.hid hN
  obtain ⟨n, q, hs⟩ : ∃ n q, spn f l = (n, q) := spn_ex f l
  have HS := Lib.hid hs
  by_cases hnear : stp f l < 2147483648
  · have HV := Lib.hid (show rangeI es f l = (es.filter fun p => inR f l p.1).map (·.1) by unfold rangeI; rw [if_pos hnear])
    have hsp : spn f l = (stp f l + 1, true) := by unfold spn; rw [if_pos hnear]
    rw [hs] at hsp
    cases hsp
    have HQ := Lib.hid (show ∀ x, decide (stp f x < stp f l + 1) = inR f l x from fun x => by
      unfold inR
      by_cases h : stp f x ≤ stp f l
      · rw [decide_eq_true h]; exact decide_eq_true (by omega)
      · rw [decide_eq_false h]; exact decide_eq_false (by omega))
    obtain ⟨nn, hnn⟩ : ∃ nn, stp f l + 1 = nn := ⟨_, rfl⟩
    rw [hnn] at HS HQ
    obtain ⟨i0, hi, hz0, hz1', hz2'⟩ := info_parts Try.info_u32
    clear h hlk hr hN hs hsm hnear hnn
    go_enter Try.func18, Try.ntmps18
    go_wp2_with fail
    refine (span_calls f l _ hf hl HS.out).mono ?_
    rintro e w1 ⟨rfl, rfl⟩
    go_wp2_with fail
    go_loopw [6, 10, 28] (fun v _ i wr => ∃ (k : Nat), k ≤ N ∧ i = .int .i64 k ∧ OwnN wr w.heap.size v (((es.take k).filter fun p => inR f l p.1).map (·.1)) ∧ Below w.heap.size w wr) (fun _ _ i _ => N - (intOf i).toNat)
    case atStart => exact ⟨0, by omega, rfl, OwnC.nil_, Below.refl _ _⟩
    case round =>
      obtain ⟨k, hk, rfl, ho, hbl⟩ := hrel
      have HO := Lib.hid ho
      have HB := Lib.hid hbl
      clear ho hbl
      by_cases hkN : k < N
      · have hkl : k < es.length := by rw [HN.out]; exact hkN
        obtain ⟨b0, o0, rfl, g1⟩ := num_at (ns := es.map (·.1)) (by
          have := HR.out.below HB.out
          rw [HN.out] at this
          rw [List.map_map]
          exact this) k (by simpa using hkl)
        rw [List.getElem_map] at g1
        have hxs : es[k].1 < 4294967296 := HSM.out _ (List.getElem_mem hkl)
        have hfs := filt_snoc es (inR f l) k hkl
        obtain ⟨x, hx⟩ : ∃ x, es[k].1 = x := ⟨_, rfl⟩
        rw [hx] at g1 hxs hfs
        have HFS := Lib.hid hfs
        have hkN' : (k : Int) < N := by omega
        clear hx hfs
        go_wp2_with fail
        refine (in_calls x f nn _ hxs hf (HQ.out x)).mono ?_
        rintro e w1 ⟨rfl, rfl⟩
        cases hq : inR f l x with
        | true =>
          have HFS2 := Lib.hid (HFS.out.trans (if_pos hq))
          obtain ⟨L, hL⟩ : ∃ L, ((es.take k).filter fun p => inR f l p.1).map (·.1) = L := ⟨_, rfl⟩
          rw [hL] at HO HFS2
          have HLL := Lib.hid (show L.length ≤ N by
            rw [← hL, List.length_map]
            exact Nat.le_trans (List.length_filter_le _ _) (by simp; omega))
          have hLN := HLL.out
          clear hq hL
          go_wp2_with (at_builtin; refine wpList_appC _ rfl _ _ _ rfl w.heap.size i0 (.int .u32 0) 4 Try.underlying31 hi hz0 hz1' hz2' rfl (by decide) (fun _ _ => trivial) u6 L.length (L.map uv) rfl ?own (some ⟨wr.heap.size, 0, none⟩) 1 1 [uv x] rfl ?rd ?hb ?h63 ?hbase ?_)
          case own => exact HO.out.alloc _
          case rd => exact rdc_box [uv x] 1 1 rfl (by simp [uv_one]) (by decide)
          case hb => omega
          case h63 => omega
          case hbase => have := HB.out.size; simp; omega
          intro v2 w2 o2 g2 _ _
          have O2 := Lib.hid (show OwnN w2 w.heap.size v2 (((es.take (k + 1)).filter fun p => inR f l p.1).map (·.1)) by
            rw [HFS2.out]
            unfold OwnN
            rw [List.length_append, List.map_append]
            exact o2)
          have B2 := Lib.hid (below_then HB.out HB.out.size (below_alloc wr _) |>.grown g2 (by have := HB.out.size; simp; omega) (fun k hk => (HO.out.lt k hk).1))
          clear o2 g2
          go_wp2_with fail
          exact ⟨⟨k + 1, by omega, by go_num, O2.out, B2.out⟩, by simp [intOf]; omega⟩
        | false =>
          have HFS2 := Lib.hid (HFS.out.trans (if_neg (by rw [hq]; simp)))
          clear hq
          go_wp2_with fail
          exact ⟨⟨k + 1, by omega, by go_num, by rw [HFS2.out]; exact HO.out, HB.out⟩, by simp [intOf]; omega⟩
      · obtain rfl : k = N := by omega
        have HO2 := Lib.hid (show OwnN wr w.heap.size u6 (rangeI es f l) by
          have := HO.out
          rw [← HN.out, List.take_length] at this
          rw [HV.out]
          exact this)
        clear HO
        go_wp2_with fail
        go_ret
        exact ⟨_, rfl, HO2.out, HB.out⟩
  · have HV := Lib.hid (show rangeI es f l = [] by unfold rangeI; rw [if_neg hnear])
    have hsp : spn f l = (0, false) := by unfold spn; rw [if_neg hnear]
    rw [hs] at hsp
    cases hsp
    clear h hlk hr hN hs hsm hnear
    go_enter Try.func18, Try.ntmps18
    go_wp2_with fail
    refine (span_calls f l _ hf hl HS.out).mono ?_
    rintro e w1 ⟨rfl, rfl⟩
    go_wp2_with fail
    go_ret
    exact ⟨_, rfl, by rw [HV.out]; exact OwnC.nil_, Below.refl _ _⟩
end Go.Proofs.Ytafmhpcfjmannaa

import Derived.Test.YtkoihcfdchcgdaaQNilL
import Derived.Lib.SlBytesConst
set_option linter.unusedVariables false
set_option linter.unusedSimpArgs false
namespace Go.Proofs.Ytkoihcfdchcgdaa
open Go.RowKit Go.Shelf

def mgT (t : Nat) : Mg := ⟨0, t, 0, [], [120]⟩
def enT (t s : Nat) (h : Bool) : En := ⟨1, mgT t, s, h⟩
theorem mom_of (s : Nat) (h : s ≤ 2305843009213693952) : mom (s : Int) = s := by unfold mom; omega
theorem old_enT (t s n : Nat) (h : Bool) (ht : 0 < t) (hn : n ≤ 2305843009213693952) : oldE (enT t s h) (n : Int) = decide (s + t ≤ n) := by
  unfold oldE
  rw [mom_of n hn]
  have : (enT t s h).m.ttl = t := rfl
  have h2 : (enT t s h).tm = s := rfl
  rw [this, h2]
  by_cases hh : s + t ≤ n
  · rw [decide_eq_true hh, decide_eq_true ⟨by omega, hh⟩]
  · rw [decide_eq_false hh, decide_eq_false (fun h => hh h.2)]
theorem wf_mgT (t : Nat) (h : t ≤ 1073741824) : WfM (mgT t) := ⟨by show 0 < 10; decide, by show 1 ≤ 2048; decide, by show 0 ≤ 64; decide, by show t ≤ 4294967295; omega, by show 0 ≤ 4294967295; decide⟩
theorem new_enT (t s : Nat) (h : s ≤ 2305843009213693952) : newE 0 (mgT t) (s : Int) = enT t s false := by unfold newE enT; rw [mom_of s h]
theorem ord_enT (t s : Nat) (h b : Bool) : ordQ b [enT t s h] = if h = b then [enT t s h] else [] := by
  cases h <;> cases b <;> rfl
theorem acq_enT (t s n : Nat) (ht : 0 < t) (hn : n ≤ 2305843009213693952) : acqQ [enT t s false] (n : Int) = if s + t ≤ n then none else some (enT t s false) := by
  unfold acqQ
  rw [ord_enT, if_pos rfl, List.find?_cons, old_enT t s n false ht hn]
  by_cases h : s + t ≤ n <;> simp [h]
theorem hold_enT (t s : Nat) : modL (holdE (enT t s false)) [enT t s false] = [enT t s true] := rfl
theorem itc_enT (t s : Nat) (v : Value) : (itc (enT t s false, v)).toArray = #[.int .i64 1, .int .u8 0, .int .u32 t, .int .u32 0, .string ⟨#[]⟩, v] := rfl
theorem exp_enT (t s n : Nat) (h : Bool) (ht : 0 < t) (hn : n ≤ 2305843009213693952) : expL [enT t s h] (n : Int) = if h = false ∧ s + t ≤ n then [enT t s h] else [] := by
  unfold expL
  rw [ord_enT]
  cases h
  · rw [if_pos rfl, List.filter_cons, old_enT t s n false ht hn]
    by_cases h : s + t ≤ n <;> simp [h]
  · simp
theorem qf_acq0 {w0 w : World} {Z : List Nat} {q room limit last : Nat} {L : List En} (h : QF w0 w Z q room limit last L) (now : Int) (ha : acqQ L now = none) :
    Calls Try.prog 12 #[.pointer (some ⟨q, 0, none⟩), .int .i64 now] w fun r w' => r = .returned (.tuple #[.agg zItem.toArray, .bool false]) ∧ QF w0 w' Z q room limit last L ∧ Below w.heap.size w w' := by
  refine (qf_acq h now).mono ?_
  rintro r w5 (⟨-, h1, h2, h3⟩ | ⟨e, v, h, -⟩)
  · exact ⟨h1, h2, h3⟩
  · rw [ha] at h; cases h

set_option maxRecDepth 100000 in
set_option maxHeartbeats 4000000 in
theorem old_row {w : World} (x0 : Int) (w0 : (Lit.int .u32 x0).wf = true) (x1 : Int) (w1 : (Lit.int .i64 x1).wf = true) (held : Bool) :
    Calls Try.prog 7 #[.int .u32 x0, .int .i64 x1, .bool held] w fun e w' => e = .returned (.bool true) ∧ Below w.heap.size w w' := by
  have b0 := wf_u32 w0
  have b1 := wf_i64 w1
  clear w0 w1
  go_enter Try.func7, Try.ntmps7
  go_wp2_with fail
  · rename_i hng _ _ _ _
    obtain ⟨s, hs1, hs2⟩ : ∃ s : Nat, wrap64 (-x1.tmod 1099511627776) = (s : Int) ∧ s < 1099511627776 := by
      have := Int.lt_tmod_of_pos x1 (show (0 : Int) < 1099511627776 by decide)
      exact ⟨(-x1.tmod 1099511627776).toNat, by unfold wrap64; omega, by omega⟩
    rw [hs1]
    obtain ⟨U, hU⟩ : ∃ U, x1.tmod 1099511627776 = U := ⟨_, rfl⟩
    rw [hU]
    clear hs1 hU hng
    obtain ⟨t, ht1, ht2, ht3⟩ : ∃ t : Nat, 1 + x0 % 1073741824 = (t : Int) ∧ 0 < t ∧ t ≤ 1073741824 := ⟨(1 + x0 % 1073741824).toNat, by omega, by omega, by omega⟩
    rw [ht1]
    clear ht1 b0 b1
    refine (qf_new 3 0 (Below.refl _ w) (by decide) (by decide) (by decide)).mono ?_
    rintro r w1 ⟨rfl, hq, -⟩
    have HQ := Lib.hid hq
    obtain ⟨q, hqd⟩ : ∃ q, w.heap.size = q := ⟨_, rfl⟩
    rw [hqd] at HQ
    rw [hqd]
    have HG := Lib.hid hqd
    clear hq hqd
    have kc := fun (w : World) (C : Array Value) (n c : Nat) => Lib.run_convert_bytes_const (P := Try.prog) w 22 5 C n c Try.underlying22 Try.underlying5
    go_wp2_with fail
    refine (qf_put_ok (HQ.out.alloc _) (mgT t) (some ⟨w1.heap.size, 0, none⟩) 1 1 rfl (rd_const rfl rfl (by decide)) (wf_mgT t ht3) (by decide) (by decide) (s : Int)).mono ?_
    rintro r w2 ⟨rfl, hq, -⟩
    have HQ2 : Hid (QF w w2 [] q 3 0 1 [enT t s false]) := Lib.hid (by have h1 := hq.less (Z' := []) (by simp); rw [new_enT t s (by omega)] at h1; exact h1)
    clear hq HQ kc
    go_wp2_with fail
    have ha1 : acqQ [enT t s false] ((s : Int) + t - 1) = some (enT t s false) := by
      rw [show (s : Int) + t - 1 = ((s + t - 1 : Nat) : Int) by omega, acq_enT t s _ ht2 (by omega), if_neg (by omega)]
    refine (qf_acq HQ2.out _).mono ?_
    rintro r w3 (⟨h, -⟩ | ⟨e, v, h, rfl, o, hq, -⟩)
    · rw [ha1] at h; cases h
    cases ha1.symm.trans h
    obtain ⟨A3, c3, rfl, -⟩ := o.rd
    have HQ3 : Hid (QF w w3 [] q 3 0 1 [enT t s true]) := Lib.hid (by have h1 := hq.less (Z' := []) (by simp); rw [hold_enT] at h1; exact h1)
    rw [itc_enT]
    clear hq HQ2 ha1 h o
    have el : (enT t s false).m.body.length = 1 := rfl
    rw [el]
    clear el
    cases held with
    | true =>
      go_wp2_with fail
      have hq3 := HQ3.out.alloc (.cells #[.int .i64 1, .int .u8 0, .int .u32 t, .int .u32 0, .string ⟨#[]⟩, .slice A3 1 c3] 34)
      refine (qf_exp hq3 ((s : Int) + t)).mono ?_
      rintro r w4 ⟨v4, ms, rfl, hms, ho4, -, hq4, -⟩
      have he : expL [enT t s true] ((s : Int) + t) = [] := by unfold expL; rw [ord_enT]; rfl
      rw [he] at hms
      obtain rfl : ms = [] := by simpa using hms
      obtain ⟨A4, c4, rfl, -⟩ := ho4.rd
      have HQ4 := Lib.hid hq4
      clear hq3 hms ho4 hq4 he
      have el : ([] : List (Mg × Value)).length = 0 := rfl
      rw [el]
      clear el
      go_wp2_with fail
      refine (works_calls _).mono ?_
      rintro e w5 ⟨rfl, b5⟩
      have B5 := Lib.hid b5
      clear b5
      go_wp2_with fail
      go_ret
      exact ⟨rfl, below_then HQ4.out.old HQ4.out.old.size B5.out⟩
    | false =>
      go_wp2_with fail
      have hq3 := (HQ3.out.alloc (.cells #[.int .i64 1, .int .u8 0, .int .u32 t, .int .u32 0, .string ⟨#[]⟩, .slice A3 1 c3] 34)).less (Z' := []) (by simp)
      refine (qf_set hq3 1 ⟨4, 0, 0, []⟩).mono ?_
      rintro r w4 ⟨v4, rfl, -, hq4, -⟩
      have hs : setQ 0 [enT t s true] 1 ⟨4, 0, 0, []⟩ = ([enT t s false], 0, none) := rfl
      rw [hs] at hq4 ⊢
      have HQ4 := Lib.hid hq4
      rw [show deadM ([enT t s false], 0, (none : Option En)).2.2 v4 = .agg #[.int .u8 0, .int .u32 0, .int .u32 0, .string ⟨#[]⟩, .slice none 0 0] from rfl]
      clear hq3 hq4 hs HQ3
      go_wp2_with fail
      have ha2 : acqQ [enT t s false] ((s : Int) + t) = none := by
        rw [show (s : Int) + t = ((s + t : Nat) : Int) by omega, acq_enT t s _ ht2 (by omega), if_pos (by omega)]
      refine (qf_acq0 HQ4.out _ ha2).mono ?_
      rintro r w5 ⟨rfl, hq5, -⟩
      have HQ5 := Lib.hid hq5
      rw [show zItem.toArray = #[.int .i64 0, .int .u8 0, .int .u32 0, .int .u32 0, .string ⟨#[]⟩, .slice none 0 0] from rfl]
      clear hq5 ha2 HQ4
      go_wp2_with fail
      refine (qf_exp HQ5.out ((s : Int) + t - 1)).mono ?_
      rintro r w6 ⟨v6, ms, rfl, hms, ho6, -, hq6, -⟩
      have he : expL [enT t s false] ((s : Int) + t - 1) = [] := by
        rw [show (s : Int) + t - 1 = ((s + t - 1 : Nat) : Int) by omega, exp_enT t s _ _ ht2 (by omega), if_neg (by omega)]
      have he2 : expQ [enT t s false] ((s : Int) + t - 1) = [enT t s false] := by unfold expQ; rw [he]; rfl
      rw [he] at hms
      rw [he2] at hq6
      obtain rfl : ms = [] := by simpa using hms
      obtain ⟨A6, c6, rfl, -⟩ := ho6.rd
      have HQ6 := Lib.hid (hq6.less (Z' := []) (by simp))
      have el : ([] : List (Mg × Value)).length = 0 := rfl
      rw [el]
      clear hms ho6 hq6 he he2 el HQ5
      go_wp2_with fail
      refine (qf_exp HQ6.out ((s : Int) + t)).mono ?_
      rintro r w7 ⟨v7, ms, rfl, hms, ho7, hb7, hq7, -⟩
      have he : expL [enT t s false] ((s : Int) + t) = [enT t s false] := by
        rw [show (s : Int) + t = ((s + t : Nat) : Int) by omega, exp_enT t s _ _ ht2 (by omega), if_pos ⟨rfl, by omega⟩]
      have he2 : expQ [enT t s false] ((s : Int) + t) = [] := by unfold expQ; rw [he]; rfl
      rw [he] at hms
      rw [he2] at hq7
      obtain ⟨vb, rfl⟩ : ∃ vb, ms = [(mgT t, vb)] := by
        cases ms with
        | nil => cases hms
        | cons x ms =>
          cases ms with
          | nil =>
            obtain ⟨x1, x2⟩ := x
            simp only [List.map_cons, List.map_nil] at hms
            have : x1 = mgT t := (List.cons.inj hms).1
            exact ⟨x2, by rw [this]⟩
          | cons y ms => cases (List.cons.inj hms).2
      obtain ⟨g7, c7, rfl, -⟩ := ho7.form (by simp)
      obtain ⟨A8, c8, hvb, hr8, -⟩ := hb7 (mgT t, vb) (List.mem_singleton.2 rfl)
      obtain rfl : vb = .slice A8 1 c8 := hvb
      have m4 : w7.cell? ⟨g7, 4, none⟩ = some (.slice A8 1 c8) := (ho7.cell_at 4 _ rfl).1
      have HQ7 := Lib.hid (hq7.less (Z' := []) (by simp))
      have s1 : ∀ W, Below w7.heap.size w7 W → (convert 22 9 (.slice A8 1 c8)).run Try.prog W = .ok (.string ⟨#[120]⟩) W := fun W hb => conv_bytes (l := [120]) (hr8.below hb)
      have S1 := Lib.hid s1
      have el : ([(mgT t, Value.slice A8 1 c8)] : List (Mg × Value)).length = 1 := rfl
      rw [el]
      clear hms ho7 hb7 hr8 hq7 he he2 el HQ6 s1
      go_wp2_with fail
      refine (qf_len HQ7.out).mono ?_
      rintro r w8 ⟨rfl, b8⟩
      have m5 : w8.cell? ⟨g7, 4, none⟩ = some (.slice A8 1 c8) := stays b8 m4 (World.block_lt_of_cell? _ _ m4)
      have s2 := S1.out w8 b8
      have HQ8 := Lib.hid (HQ7.out.below b8)
      rw [show (ordQ false []).length = 0 from rfl, show (ordQ true []).length = 0 from rfl]
      clear m4 b8
      go_wp2_with fail
      refine (works_calls _).mono ?_
      rintro e w9 ⟨rfl, b9⟩
      have B9 := Lib.hid b9
      clear b9
      go_wp2_with fail
      go_ret
      exact ⟨rfl, below_then HQ8.out.old HQ8.out.old.size B9.out⟩
  · rename_i hng _ _ _ _
    obtain ⟨s, hs1, hs2⟩ : ∃ s : Nat, x1.tmod 1099511627776 = (s : Int) ∧ s < 1099511627776 := by
      have := Int.tmod_lt_of_pos x1 (show (0 : Int) < 1099511627776 by decide)
      exact ⟨(x1.tmod 1099511627776).toNat, by omega, by omega⟩
    rw [hs1]
    clear hs1 hng
    obtain ⟨t, ht1, ht2, ht3⟩ : ∃ t : Nat, 1 + x0 % 1073741824 = (t : Int) ∧ 0 < t ∧ t ≤ 1073741824 := ⟨(1 + x0 % 1073741824).toNat, by omega, by omega, by omega⟩
    rw [ht1]
    clear ht1 b0 b1
    refine (qf_new 3 0 (Below.refl _ w) (by decide) (by decide) (by decide)).mono ?_
    rintro r w1 ⟨rfl, hq, -⟩
    have HQ := Lib.hid hq
    obtain ⟨q, hqd⟩ : ∃ q, w.heap.size = q := ⟨_, rfl⟩
    rw [hqd] at HQ
    rw [hqd]
    have HG := Lib.hid hqd
    clear hq hqd
    have kc := fun (w : World) (C : Array Value) (n c : Nat) => Lib.run_convert_bytes_const (P := Try.prog) w 22 5 C n c Try.underlying22 Try.underlying5
    go_wp2_with fail
    refine (qf_put_ok (HQ.out.alloc _) (mgT t) (some ⟨w1.heap.size, 0, none⟩) 1 1 rfl (rd_const rfl rfl (by decide)) (wf_mgT t ht3) (by decide) (by decide) (s : Int)).mono ?_
    rintro r w2 ⟨rfl, hq, -⟩
    have HQ2 : Hid (QF w w2 [] q 3 0 1 [enT t s false]) := Lib.hid (by have h1 := hq.less (Z' := []) (by simp); rw [new_enT t s (by omega)] at h1; exact h1)
    clear hq HQ kc
    go_wp2_with fail
    have ha1 : acqQ [enT t s false] ((s : Int) + t - 1) = some (enT t s false) := by
      rw [show (s : Int) + t - 1 = ((s + t - 1 : Nat) : Int) by omega, acq_enT t s _ ht2 (by omega), if_neg (by omega)]
    refine (qf_acq HQ2.out _).mono ?_
    rintro r w3 (⟨h, -⟩ | ⟨e, v, h, rfl, o, hq, -⟩)
    · rw [ha1] at h; cases h
    cases ha1.symm.trans h
    obtain ⟨A3, c3, rfl, -⟩ := o.rd
    have HQ3 : Hid (QF w w3 [] q 3 0 1 [enT t s true]) := Lib.hid (by have h1 := hq.less (Z' := []) (by simp); rw [hold_enT] at h1; exact h1)
    rw [itc_enT]
    clear hq HQ2 ha1 h o
    have el : (enT t s false).m.body.length = 1 := rfl
    rw [el]
    clear el
    cases held with
    | true =>
      go_wp2_with fail
      have hq3 := HQ3.out.alloc (.cells #[.int .i64 1, .int .u8 0, .int .u32 t, .int .u32 0, .string ⟨#[]⟩, .slice A3 1 c3] 34)
      refine (qf_exp hq3 ((s : Int) + t)).mono ?_
      rintro r w4 ⟨v4, ms, rfl, hms, ho4, -, hq4, -⟩
      have he : expL [enT t s true] ((s : Int) + t) = [] := by unfold expL; rw [ord_enT]; rfl
      rw [he] at hms
      obtain rfl : ms = [] := by simpa using hms
      obtain ⟨A4, c4, rfl, -⟩ := ho4.rd
      have HQ4 := Lib.hid hq4
      clear hq3 hms ho4 hq4 he
      have el : ([] : List (Mg × Value)).length = 0 := rfl
      rw [el]
      clear el
      go_wp2_with fail
      refine (works_calls _).mono ?_
      rintro e w5 ⟨rfl, b5⟩
      have B5 := Lib.hid b5
      clear b5
      go_wp2_with fail
      go_ret
      exact ⟨rfl, below_then HQ4.out.old HQ4.out.old.size B5.out⟩
    | false =>
      go_wp2_with fail
      have hq3 := (HQ3.out.alloc (.cells #[.int .i64 1, .int .u8 0, .int .u32 t, .int .u32 0, .string ⟨#[]⟩, .slice A3 1 c3] 34)).less (Z' := []) (by simp)
      refine (qf_set hq3 1 ⟨4, 0, 0, []⟩).mono ?_
      rintro r w4 ⟨v4, rfl, -, hq4, -⟩
      have hs : setQ 0 [enT t s true] 1 ⟨4, 0, 0, []⟩ = ([enT t s false], 0, none) := rfl
      rw [hs] at hq4 ⊢
      have HQ4 := Lib.hid hq4
      rw [show deadM ([enT t s false], 0, (none : Option En)).2.2 v4 = .agg #[.int .u8 0, .int .u32 0, .int .u32 0, .string ⟨#[]⟩, .slice none 0 0] from rfl]
      clear hq3 hq4 hs HQ3
      go_wp2_with fail
      have ha2 : acqQ [enT t s false] ((s : Int) + t) = none := by
        rw [show (s : Int) + t = ((s + t : Nat) : Int) by omega, acq_enT t s _ ht2 (by omega), if_pos (by omega)]
      refine (qf_acq0 HQ4.out _ ha2).mono ?_
      rintro r w5 ⟨rfl, hq5, -⟩
      have HQ5 := Lib.hid hq5
      rw [show zItem.toArray = #[.int .i64 0, .int .u8 0, .int .u32 0, .int .u32 0, .string ⟨#[]⟩, .slice none 0 0] from rfl]
      clear hq5 ha2 HQ4
      go_wp2_with fail
      refine (qf_exp HQ5.out ((s : Int) + t - 1)).mono ?_
      rintro r w6 ⟨v6, ms, rfl, hms, ho6, -, hq6, -⟩
      have he : expL [enT t s false] ((s : Int) + t - 1) = [] := by
        rw [show (s : Int) + t - 1 = ((s + t - 1 : Nat) : Int) by omega, exp_enT t s _ _ ht2 (by omega), if_neg (by omega)]
      have he2 : expQ [enT t s false] ((s : Int) + t - 1) = [enT t s false] := by unfold expQ; rw [he]; rfl
      rw [he] at hms
      rw [he2] at hq6
      obtain rfl : ms = [] := by simpa using hms
      obtain ⟨A6, c6, rfl, -⟩ := ho6.rd
      have HQ6 := Lib.hid (hq6.less (Z' := []) (by simp))
      have el : ([] : List (Mg × Value)).length = 0 := rfl
      rw [el]
      clear hms ho6 hq6 he he2 el HQ5
      go_wp2_with fail
      refine (qf_exp HQ6.out ((s : Int) + t)).mono ?_
      rintro r w7 ⟨v7, ms, rfl, hms, ho7, hb7, hq7, -⟩
      have he : expL [enT t s false] ((s : Int) + t) = [enT t s false] := by
        rw [show (s : Int) + t = ((s + t : Nat) : Int) by omega, exp_enT t s _ _ ht2 (by omega), if_pos ⟨rfl, by omega⟩]
      have he2 : expQ [enT t s false] ((s : Int) + t) = [] := by unfold expQ; rw [he]; rfl
      rw [he] at hms
      rw [he2] at hq7
      obtain ⟨vb, rfl⟩ : ∃ vb, ms = [(mgT t, vb)] := by
        cases ms with
        | nil => cases hms
        | cons x ms =>
          cases ms with
          | nil =>
            obtain ⟨x1, x2⟩ := x
            simp only [List.map_cons, List.map_nil] at hms
            have : x1 = mgT t := (List.cons.inj hms).1
            exact ⟨x2, by rw [this]⟩
          | cons y ms => cases (List.cons.inj hms).2
      obtain ⟨g7, c7, rfl, -⟩ := ho7.form (by simp)
      obtain ⟨A8, c8, hvb, hr8, -⟩ := hb7 (mgT t, vb) (List.mem_singleton.2 rfl)
      obtain rfl : vb = .slice A8 1 c8 := hvb
      have m4 : w7.cell? ⟨g7, 4, none⟩ = some (.slice A8 1 c8) := (ho7.cell_at 4 _ rfl).1
      have HQ7 := Lib.hid (hq7.less (Z' := []) (by simp))
      have s1 : ∀ W, Below w7.heap.size w7 W → (convert 22 9 (.slice A8 1 c8)).run Try.prog W = .ok (.string ⟨#[120]⟩) W := fun W hb => conv_bytes (l := [120]) (hr8.below hb)
      have S1 := Lib.hid s1
      have el : ([(mgT t, Value.slice A8 1 c8)] : List (Mg × Value)).length = 1 := rfl
      rw [el]
      clear hms ho7 hb7 hr8 hq7 he he2 el HQ6 s1
      go_wp2_with fail
      refine (qf_len HQ7.out).mono ?_
      rintro r w8 ⟨rfl, b8⟩
      have m5 : w8.cell? ⟨g7, 4, none⟩ = some (.slice A8 1 c8) := stays b8 m4 (World.block_lt_of_cell? _ _ m4)
      have s2 := S1.out w8 b8
      have HQ8 := Lib.hid (HQ7.out.below b8)
      rw [show (ordQ false []).length = 0 from rfl, show (ordQ true []).length = 0 from rfl]
      clear m4 b8
      go_wp2_with fail
      refine (works_calls _).mono ?_
      rintro e w9 ⟨rfl, b9⟩
      have B9 := Lib.hid b9
      clear b9
      go_wp2_with fail
      go_ret
      exact ⟨rfl, below_then HQ8.out.old HQ8.out.old.size B9.out⟩
end Go.Proofs.Ytkoihcfdchcgdaa

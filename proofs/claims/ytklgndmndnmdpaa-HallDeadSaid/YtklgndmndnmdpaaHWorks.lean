import Derived.Test.YtklgndmndnmdpaaHNew
import Derived.Test.YtklgndmndnmdpaaHNames
import Derived.Lib.SlBytesConst
set_option linter.unusedVariables false
set_option linter.unusedSimpArgs false
namespace Go.Proofs.Ytklgndmndnmdpaa
open Go.RowKit Go.Shelf

/-- The queues of a new hall. -/
def startQ (C : List Cf) (qs : List Nat) : List Qu := List.zipWith (fun c q => ⟨q, c.room.toNat, c.limit.toNat, 0, []⟩) C qs
theorem startQ_of {w0 w : World} {G : List Nat} {h lost : Nat} {C : List Cf} {Qs : List Qu} (hf : HF w0 w G h C Qs lost) (hn : ∀ x ∈ Qs, x.last = 0 ∧ x.L = []) : ∃ qs, qs.length = C.length ∧ Qs = startQ C qs := by
  refine ⟨Qs.map (·.q), by rw [List.length_map, hf.len], ?_⟩
  apply List.ext_getElem
  · unfold startQ; rw [List.length_zipWith, List.length_map, hf.len]; omega
  · intro i h1 h2
    have he : (startQ C (Qs.map (·.q)))[i] = ⟨(Qs[i]).q, (C[i]'(by rw [← hf.len]; exact h1)).room.toNat, (C[i]'(by rw [← hf.len]; exact h1)).limit.toNat, 0, []⟩ := by simp [startQ]
    rw [he]
    have h3 := hf.par i h1 (by rw [← hf.len]; exact h1)
    have h4 := hn _ (List.getElem_mem h1)
    rw [h3.1, h3.2]
    generalize Qs[i] = y at h4 ⊢
    obtain ⟨q, room, limit, last, L⟩ := y
    obtain ⟨h5, h6⟩ := h4
    cases h5
    cases h6
    simp
theorem rd_const {w : World} {C : Array Value} {l : List UInt8} {n : Nat} {fr : Nat × Nat} (h : C = (u8s l).toArray) (hn : l.length = n) (hm : n ≤ 9223372036854775807) : Rd (w.alloc (.cells C 5 fr)) (some ⟨w.heap.size, 0, none⟩) n l := by
  subst h hn
  exact rd_of_heap (sp := []) (by rw [List.append_nil]; exact heap_alloc_new w _) (Nat.le_refl _) hm
theorem HF.blw {w0 w : World} {G : List Nat} {h lost : Nat} {C : List Cf} {Qs : List Qu} (hf : HF w0 w G h C Qs lost) : Below w0.heap.size w0 w := by
  obtain ⟨⟨cv, r, D, h1, h2, h3, h4, h5⟩, -, -, -⟩ := hf
  exact h5.1.1.1
theorem rd_zero (W : World) : Rd W none 0 [] := by
  obtain ⟨A, c, hv, hr, -⟩ := bdv_nil W
  cases hv
  exact hr
theorem conv_rd {W : World} {ad : Addr} {c : Nat} {l : List UInt8} (h : Rd W (some ad) c l) : (convert 39 9 (.slice (some ad) l.length c)).run Try.prog W = .ok (.string ⟨l.toArray⟩) W := by
  refine run_convert_bytes_back W _ _ _ _ c l Try.underlying39 Try.underlying5 Try.underlying9 fun j hj => ?_
  obtain ⟨ad', he, hc⟩ := h.cell j (u8 l[j]) (by unfold u8s; rw [List.getElem?_map, List.getElem?_eq_getElem hj]; rfl)
  cases he
  exact hc
def cA : Cf := ⟨[97], 2, 1, [100]⟩
def cD : Cf := ⟨[100], 1, 0, []⟩
def CC : List Cf := [cA, cD]
def wMg (k : Nat) : Mg := ⟨0, 9, 0, [], [UInt8.ofNat (120 + k)]⟩
/-- What the hall is ahead of round k. -/
def wSt (q0 q1 : Nat) : Nat → List Qu × Nat
  | 0 => ([⟨q0, 2, 1, 0, []⟩, ⟨q1, 1, 0, 0, []⟩], 0)
  | 1 => ([⟨q0, 2, 1, 1, []⟩, ⟨q1, 1, 0, 1, [⟨1, ⟨0, 0, 0, [], [120]⟩, 2, false⟩]⟩], 0)
  | _ => ([⟨q0, 2, 1, 2, []⟩, ⟨q1, 1, 0, 1, [⟨1, ⟨0, 0, 0, [], [120]⟩, 2, false⟩]⟩], 1)
def wPut (q0 q1 : Nat) : Nat → List Qu
  | 0 => [⟨q0, 2, 1, 1, [⟨1, wMg 0, 0, false⟩]⟩, ⟨q1, 1, 0, 0, []⟩]
  | _ => [⟨q0, 2, 1, 2, [⟨2, wMg 1, 0, false⟩]⟩, ⟨q1, 1, 0, 1, [⟨1, ⟨0, 0, 0, [], [120]⟩, 2, false⟩]⟩]
def wAcq (q0 q1 : Nat) : Nat → List Qu
  | 0 => [⟨q0, 2, 1, 1, [⟨1, wMg 0, 0, true⟩]⟩, ⟨q1, 1, 0, 0, []⟩]
  | _ => [⟨q0, 2, 1, 2, [⟨2, wMg 1, 0, true⟩]⟩, ⟨q1, 1, 0, 1, [⟨1, ⟨0, 0, 0, [], [120]⟩, 2, false⟩]⟩]
theorem w_put0 (q0 q1 : Nat) : hputR CC (wSt q0 q1 0).1 [97] (wMg 0) 0 = (wPut q0 q1 0, 0) := by kernel_rfl
theorem w_put1 (q0 q1 : Nat) : hputR CC (wSt q0 q1 1).1 [97] (wMg 1) 0 = (wPut q0 q1 1, 0) := by kernel_rfl
theorem w_acq0 (q0 q1 : Nat) : hacqR CC (wPut q0 q1 0) [97] 1 = (wAcq q0 q1 0, some ⟨1, wMg 0, 0, false⟩) := by kernel_rfl
theorem w_acq1 (q0 q1 : Nat) : hacqR CC (wPut q0 q1 1) [97] 1 = (wAcq q0 q1 1, some ⟨2, wMg 1, 0, false⟩) := by kernel_rfl
theorem w_set0 (q0 q1 : Nat) : hsetR CC (wAcq q0 q1 0) 0 [97] 1 ⟨3, 0, 0, []⟩ 2 = (wSt q0 q1 1, 0) := by kernel_rfl
theorem w_set1 (q0 q1 : Nat) : hsetR CC (wAcq q0 q1 1) 0 [97] 2 ⟨3, 0, 0, []⟩ 2 = (wSt q0 q1 2, 0) := by kernel_rfl
theorem newH_CC : newH CC = 0 := by kernel_rfl
set_option maxRecDepth 100000 in
theorem plain_calls (w : World) : Calls Try.prog 28 #[] w fun e w' => ∃ A c, e = .returned (.slice A 2 c) ∧ RdC 4 w' A 2 c (CC.flatMap cfs) ∧ Below w.heap.size w w' := by
  go_enter Try.func28, Try.ntmps28
  go_wp2_with fail
  go_ret
  refine ⟨_, _, rfl, ?_, below_alloc w _⟩
  exact rdc_box (CC.flatMap cfs) 2 4 rfl (by decide) (by decide)
set_option maxRecDepth 100000 in
set_option maxHeartbeats 4000000 in
theorem works_calls (w : World) : Calls Try.prog 10 #[] w fun e w' => e = .returned (.bool true) ∧ Below w.heap.size w w' := by
  go_enter Try.func10, Try.ntmps10
  go_wp2_with fail
  refine (plain_calls w).mono ?_
  rintro e w1 ⟨A1, c1, rfl, hr1, hb1⟩
  have HN := Lib.hid (hnew_calls (w0 := w) hb1 A1 2 c1 CC hr1 (by decide) (by decide))
  clear hr1
  have HB1 := Lib.hid hb1
  clear hb1
  go_wp2_with fail
  refine HN.out.mono ?_
  rintro e w2 ⟨p, rfl, hb2, -, h0⟩
  obtain ⟨h, Qs, rfl, hf, hnew⟩ := h0 newH_CC
  obtain ⟨qs, hql, rfl⟩ := startQ_of hf hnew
  obtain ⟨q0, q1, rfl⟩ : ∃ q0 q1, qs = [q0, q1] := by
    match qs, hql with
    | [a, b], _ => exact ⟨a, b, rfl⟩
  have HF0 : Hid (HF w w2 [] h CC (wSt q0 q1 0).1 (wSt q0 q1 0).2) := Lib.hid hf
  rw [newH_CC]
  clear h0 hf hnew hql HN hb2
  go_wp2_with fail
  go_loopw [3, 4, 5, 6] (fun i _ _ _ wr => ∃ (k : Nat), k ≤ 2 ∧ i = .int .i64 k ∧ Hid (HF w wr [] h CC (wSt q0 q1 k).1 (wSt q0 q1 k).2)) (fun i _ _ _ _ => 2 - (intOf i).toNat)
  case atStart => exact ⟨0, by omega, rfl, HF0⟩
  case round =>
    obtain ⟨k, hk, rfl, HJ⟩ := hrel
    clear HF0
    have hkc : k = 0 ∨ k = 1 ∨ k = 2 := by omega
    rcases hkc with rfl | rfl | rfl
    · have hf1 := HJ.out.below (below_alloc wr (.cells #[.int .u8 120] 5))
      have hpt := hput_calls hf1 [97] (wMg 0) (some ⟨wr.heap.size, 0, none⟩) 1 1 rfl (rd_const rfl rfl (by decide)) (by decide) (by decide) (by intro x hx; simp only [wSt, List.mem_cons, List.not_mem_nil, or_false] at hx; rcases hx with rfl | rfl <;> exact Nat.le_of_ble_eq_true rfl) 0
      rw [w_put0] at hpt
      have HPT := Lib.hid hpt
      clear hf1 hpt
      go_wp2_with fail
      refine HPT.out.mono ?_
      rintro e w3 ⟨rfl, hf3, -⟩
      have HF3 := Lib.hid hf3
      clear hf3 HPT HJ
      go_wp2_with fail
      refine (hacq_calls HF3.out [97] 1).mono ?_
      rintro e w4 ⟨hor, hf4, -⟩
      rw [w_acq0] at hor hf4
      obtain ⟨e4, v4, he4, rfl, hbd⟩ : ∃ e4 v4, (some (⟨1, wMg 0, 0, false⟩ : En)) = some e4 ∧ e = .returned (.tuple #[.agg (kcs [97] e4.id).toArray, mgv e4.m v4, .bool true]) ∧ Bdv w4 v4 e4.m.body := by
        rcases hor with ⟨h1, -⟩ | ⟨e4, v4, h1, h2, h3⟩
        · cases h1
        · exact ⟨e4, v4, h1, h2, h3⟩
      cases he4
      obtain ⟨A4, c4, rfl, -⟩ := hbd
      have HF4 := Lib.hid hf4
      clear hf4 hor HF3
      rw [show (kcs [97] (⟨1, wMg 0, 0, false⟩ : En).id).toArray = #[.string ⟨#[97]⟩, .int .i64 1] from rfl, show mgv (⟨1, wMg 0, 0, false⟩ : En).m (.slice A4 ((⟨1, wMg 0, 0, false⟩ : En).m.body.length) c4) = .agg #[.int .u8 0, .int .u32 9, .int .u32 0, .string ⟨#[]⟩, .slice A4 1 c4] from rfl]
      have hst := fun W (hb : Below w4.heap.size w4 W) => hset_calls (HF4.out.below hb) [97] 1 ⟨3, 0, 0, []⟩ 2 (by intro x hx; simp only [wAcq, List.mem_cons, List.not_mem_nil, or_false] at hx; rcases hx with rfl | rfl <;> exact Nat.le_of_ble_eq_true rfl) (Nat.le_of_ble_eq_true rfl)
      rw [show (wSt q0 q1 0).2 = 0 from rfl, w_set0] at hst
      have HST := Lib.hid hst
      clear hst
      go_wp2_with fail
      refine (HST.out _ ?_).mono ?_
      · first | exact below2 w4 _ _ | (go_show; sorry)
      rintro e w5 ⟨rfl, hf5, -⟩
      have HF5 := Lib.hid hf5
      clear hf5 HST HF4
      go_wp2_with fail
      exact ⟨⟨1, by omega, by go_num, HF5⟩, by simp [intOf]⟩
    · have hf1 := HJ.out.below (below_alloc wr (.cells #[.int .u8 121] 5))
      have hpt := hput_calls hf1 [97] (wMg 1) (some ⟨wr.heap.size, 0, none⟩) 1 1 rfl (rd_const rfl rfl (by decide)) (by decide) (by decide) (by intro x hx; simp only [wSt, List.mem_cons, List.not_mem_nil, or_false] at hx; rcases hx with rfl | rfl <;> exact Nat.le_of_ble_eq_true rfl) 0
      rw [w_put1] at hpt
      have HPT := Lib.hid hpt
      clear hf1 hpt
      go_wp2_with fail
      refine HPT.out.mono ?_
      rintro e w3 ⟨rfl, hf3, -⟩
      have HF3 := Lib.hid hf3
      clear hf3 HPT HJ
      go_wp2_with fail
      refine (hacq_calls HF3.out [97] 1).mono ?_
      rintro e w4 ⟨hor, hf4, -⟩
      rw [w_acq1] at hor hf4
      obtain ⟨e4, v4, he4, rfl, hbd⟩ : ∃ e4 v4, (some (⟨2, wMg 1, 0, false⟩ : En)) = some e4 ∧ e = .returned (.tuple #[.agg (kcs [97] e4.id).toArray, mgv e4.m v4, .bool true]) ∧ Bdv w4 v4 e4.m.body := by
        rcases hor with ⟨h1, -⟩ | ⟨e4, v4, h1, h2, h3⟩
        · cases h1
        · exact ⟨e4, v4, h1, h2, h3⟩
      cases he4
      obtain ⟨A4, c4, rfl, -⟩ := hbd
      have HF4 := Lib.hid hf4
      clear hf4 hor HF3
      rw [show (kcs [97] (⟨2, wMg 1, 0, false⟩ : En).id).toArray = #[.string ⟨#[97]⟩, .int .i64 2] from rfl, show mgv (⟨2, wMg 1, 0, false⟩ : En).m (.slice A4 ((⟨2, wMg 1, 0, false⟩ : En).m.body.length) c4) = .agg #[.int .u8 0, .int .u32 9, .int .u32 0, .string ⟨#[]⟩, .slice A4 1 c4] from rfl]
      have hst := fun W (hb : Below w4.heap.size w4 W) => hset_calls (HF4.out.below hb) [97] 2 ⟨3, 0, 0, []⟩ 2 (by intro x hx; simp only [wAcq, List.mem_cons, List.not_mem_nil, or_false] at hx; rcases hx with rfl | rfl <;> exact Nat.le_of_ble_eq_true rfl) (Nat.le_of_ble_eq_true rfl)
      rw [show (wSt q0 q1 1).2 = 0 from rfl, w_set1] at hst
      have HST := Lib.hid hst
      clear hst
      go_wp2_with fail
      refine (HST.out _ ?_).mono ?_
      · first | exact below2 w4 _ _ | (go_show; sorry)
      rintro e w5 ⟨rfl, hf5, -⟩
      have HF5 := Lib.hid hf5
      clear hf5 HST HF4
      go_wp2_with fail
      exact ⟨⟨2, by omega, by go_num, HF5⟩, by simp [intOf]⟩
    · go_wp2_with fail
      refine (hlist_calls HJ.out [100]).mono ?_
      rintro e w3 ⟨v, ms, rfl, hms, hml, b3⟩
      obtain ⟨bv, rfl⟩ : ∃ bv, ms = [(⟨0, 0, 0, [], [120]⟩, bv)] := by
        have hms2 : ms.map (·.1) = [⟨0, 0, 0, [], [120]⟩] := hms
        match ms, hms2 with
        | [(m, bv)], h => exact ⟨bv, by simpa using h⟩
      obtain ⟨A3, c3, rfl⟩ := hml.1.slice
      obtain ⟨g3, c3', hv, -⟩ := hml.1.form Nat.one_pos
      cases hv
      obtain ⟨Ab, cb, hbv, hrd, -⟩ := hml.2 _ (List.mem_singleton.2 rfl)
      simp only at hbv
      subst hbv
      have HF3 := Lib.hid (HJ.out.below b3)
      have HQ : hasQ CC (wSt q0 q1 2).1 [100] = 0 := by kernel_rfl
      rw [HQ]
      have HM := Lib.hid hml.1
      have HRD := Lib.hid hrd
      clear hms b3 HQ hml hrd HJ
      go_wp2_with fail
      refine (hlen_calls HF3.out [97]).mono ?_
      rintro e w4 ⟨rfl, b4⟩
      rw [show (ordQ false (qLs CC (wSt q0 q1 2).1 [97])).length = 0 from by kernel_rfl, show (ordQ true (qLs CC (wSt q0 q1 2).1 [97])).length = 0 from by kernel_rfl]
      have HF4 := Lib.hid (HF3.out.below b4)
      have hm4 := HM.out.below b4
      have hr4 := HRD.out.below b4
      have e1 := (hm4.cell_at 1 (.int .u32 0) rfl).1
      have e4 := (hm4.cell_at 4 (.slice Ab 1 cb) rfl).1
      obtain ⟨ad, rfl, -⟩ := hr4.cell 0 (u8 120) rfl
      have hcv : (convert 39 9 (.slice (some ad) 1 cb)).run Try.prog w4 = .ok (.string ⟨#[120]⟩) w4 := conv_rd hr4
      have hlo := hlost_calls HF4.out
      rw [show (((wSt q0 q1 2).2 : Nat) : Int) = 1 from rfl] at hlo
      have HLO := Lib.hid hlo
      clear b4 HM HRD HF3 hm4 hr4 hlo
      go_wp2_with fail
      refine HLO.out.mono ?_
      rintro e w5 ⟨rfl, rfl⟩
      go_wp2_with fail
      refine (hnames_calls HF4.out).mono ?_
      rintro e w6 ⟨v6, rfl, o6, b6⟩
      have HF6 := Lib.hid (HF4.out.below b6)
      obtain ⟨A6, c6, rfl⟩ := o6.slice
      rw [show CC.length = 2 from rfl]
      have hpt := hput_calls HF6.out [98] ⟨0, 0, 0, [], []⟩ none 0 0 rfl (rd_zero w6) (by decide) (by decide) (by intro x hx; simp only [wSt, List.mem_cons, List.not_mem_nil, or_false] at hx; rcases hx with rfl | rfl <;> exact Nat.le_of_ble_eq_true rfl) 0
      rw [show (hputR CC (wSt q0 q1 2).1 [98] ⟨0, 0, 0, [], []⟩ 0).2 = 5 from by kernel_rfl] at hpt
      have HPT := Lib.hid hpt
      clear b6 o6 hpt HLO HF4
      go_wp2_with fail
      refine HPT.out.mono ?_
      rintro e w7 ⟨rfl, hf7, -⟩
      have HF7 := Lib.hid hf7
      clear hf7
      go_wp2_with fail
      go_ret
      exact ⟨rfl, HF7.out.blw⟩
end Go.Proofs.Ytklgndmndnmdpaa

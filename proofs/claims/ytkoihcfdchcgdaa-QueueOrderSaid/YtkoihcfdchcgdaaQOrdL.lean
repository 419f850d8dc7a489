import Derived.Test.YtkoihcfdchcgdaaQOrdLaw
import Derived.Test.YtkoihcfdchcgdaaQOldL
import Derived.Lib.SlBytesConst
set_option linter.unusedVariables false
set_option linter.unusedSimpArgs false
namespace Go.Proofs.Ytkoihcfdchcgdaa
open Go.RowKit Go.Shelf

def mgO (p i : Nat) : Mg := ⟨p, 0, 0, [], [UInt8.ofNat i]⟩
theorem wf_mgO (p i : Nat) (h : p < 10) : WfM (mgO p i) := ⟨h, by show 1 ≤ 2048; decide, by show 0 ≤ 64; decide, by show 0 ≤ 4294967295; decide, by show 0 ≤ 4294967295; decide⟩
theorem rd_byte {w : World} (i : Nat) (hi : i < 256) : Rd (w.alloc (.cells #[.int .u8 (i : Int)] 5)) (some ⟨w.heap.size, 0, none⟩) 1 [UInt8.ofNat i] := by
  refine rd_lit (w := w) [UInt8.ofNat i] ?_ (by simp)
  have : (UInt8.ofNat i).toNat = i := by simp; omega
  simp [u8s, u8, this]

set_option maxRecDepth 100000 in
set_option maxHeartbeats 8000000 in
theorem order_row {w : World} (A : Option Addr) (c : Nat) (l : List UInt8) (hr : Rd w A c l) (x1 : Int) (w1 : (Lit.int .u8 x1).wf = true) :
    Calls Try.prog 3 #[.slice A l.length c, .int .u8 x1] w fun e w' => e = .returned (.bool true) ∧ Below w.heap.size w w' := by
  have b1 := wf_u8 w1
  have HR := Lib.hid hr
  have hlc := hr.len
  obtain ⟨n, hn⟩ : ∃ n, l.length = n := ⟨_, rfl⟩
  rw [hn] at hlc ⊢
  have HN := Lib.hid hn
  clear w1 hr hn
  by_cases hbig : 60 < n
  · have hbig' : (60 : Int) < n := by omega
    go_enter Try.func3, Try.ntmps3
    go_wp2_with fail
    refine (works_calls _).mono ?_
    rintro e w6 ⟨rfl, b6⟩
    have B6 := Lib.hid b6
    clear b6
    go_wp2_with fail
    go_ret
    exact ⟨rfl, B6.out⟩
  have hbig' : ¬ (60 : Int) < n := by omega
  go_enter Try.func3, Try.ntmps3
  go_wp2_with fail
  refine (qf_new 64 0 (Below.refl _ w) (by decide) (by decide) (by decide)).mono ?_
  rintro r w1 ⟨rfl, hq, -⟩
  have HQ := Lib.hid hq
  obtain ⟨q, hqd⟩ : ∃ q, w.heap.size = q := ⟨_, rfl⟩
  rw [hqd] at HQ
  rw [hqd]
  have HG := Lib.hid hqd
  clear hq hqd hbig
  go_wp2_with fail
  go_loopw [7, 8, 9] (fun i _ _ wr => ∃ (k : Nat) (L : List En), k ≤ n ∧ i = .int .i64 k ∧ QF w wr [] q 64 0 k L ∧ L.length = k ∧ ∀ e ∈ L, Yng e) (fun i _ _ _ => n - (intOf i).toNat)
  case atStart => exact ⟨0, [], by omega, rfl, HQ.out, rfl, by simp⟩
  case round =>
    obtain ⟨k, L, hk, rfl, hq, hLk, hy⟩ := hrel
    have HQ2 := Lib.hid hq
    have HY := Lib.hid hy
    have HLK := Lib.hid hLk
    clear hq hy hLk
    by_cases hkn : k < n
    · have hkn' : (k : Int) < n := by omega
      obtain ⟨ad, rfl, hc⟩ := (HR.out.below HQ2.out.old).at_ k (by rw [HN.out]; exact hkn)
      obtain ⟨p, hp1, hp2⟩ : ∃ p : Nat, ((l[k]'(by rw [HN.out]; exact hkn)).toNat : Int) % 10 = (p : Int) ∧ p < 10 := ⟨(l[k]'(by rw [HN.out]; exact hkn)).toNat % 10, by omega, by omega⟩
      have hub := (l[k]'(by rw [HN.out]; exact hkn)).toNat_lt
      obtain ⟨u, hu⟩ : ∃ u, (l[k]'(by rw [HN.out]; exact hkn)).toNat = u := ⟨_, rfl⟩
      rw [hu] at hp1 hc hub
      clear hu
      go_wp2_with fail
      refine (qf_put_ok (HQ2.out.alloc _) (mgO p k) (some ⟨wr.heap.size, 0, none⟩) 1 1 rfl (rd_byte k (by omega)) (wf_mgO p k hp2) (by have := HLK.out; omega) (by omega) 0).mono ?_
      rintro r w3 ⟨rfl, hq, -⟩
      have HQ3 := Lib.hid (hq.less (Z' := []) (by simp))
      clear hq HQ2
      go_wp2_with fail
      go_roundw
      case rel =>
        exact ⟨k + 1, L ++ [newE k (mgO p k) 0], by omega, by go_num, HQ3.out, by simp [HLK.out], fun e he => by
          rcases List.mem_append.1 he with h | h
          · exact HY.out e h
          · rw [List.mem_singleton.1 h]; exact ⟨rfl, rfl, rfl⟩⟩
      case measure => simp [intOf]; omega
    · obtain rfl : k = n := by omega
      go_wp2_with fail
      go_loopw [10, 11, 12] (fun p id i wr => ∃ (P ID j : Nat) (R : List En), j ≤ k ∧ p = .int .u8 P ∧ id = .int .i64 ID ∧ i = .int .i64 j ∧ QF w wr [] q 64 0 k R ∧ R.length + j = k ∧ (∀ e ∈ R, Yng e) ∧ ∀ e ∈ R, e.m.pr < P ∨ (e.m.pr = P ∧ ID < e.id)) (fun _ _ i _ => k - (intOf i).toNat)
      case atStart => exact ⟨10, 0, 0, L, by omega, rfl, rfl, rfl, HQ2.out, by have := HLK.out; omega, HY.out, fun e he => .inl (HQ2.out.wf.ok e he).pr⟩
      case round =>
        obtain ⟨P, ID, j, R, hj, rfl, rfl, rfl, hq, hRk, hy, ho⟩ := hrel
        have HR4 := Lib.hid hq
        have HY4 := Lib.hid hy
        have HO4 := Lib.hid ho
        have HRK := Lib.hid hRk
        clear hq hy ho hRk HQ2 HY HLK
        by_cases hjk : j < k
        · have hjk' : (j : Int) < k := by omega
          go_wp2_with fail
          have hwf := HR4.out.wf
          have h0 : R ≠ [] := fun h => by have := HRK.out; rw [h] at this; simp at this; omega
          obtain ⟨e, he⟩ := acq_any 5 HY4.out (fun e he => (hwf.ok e he).pr) h0
          have hmem := (acq_mem he).1
          have hmin := acq_min he HY4.out hwf.sorted fun e he => (hwf.ok e he).pr
          refine (qf_acq HR4.out 5).mono ?_
          rintro r w3 (⟨h, -⟩ | ⟨e', v, h, rfl, o, hq, -⟩)
          · rw [he] at h; cases h
          cases he.symm.trans h
          obtain ⟨A3, c3, hv3, -⟩ := o.rd
          rw [(HY4.out e hmem).body] at hv3
          subst hv3
          rw [show (itc (e, .slice A3 1 c3)).toArray = #[.int .i64 e.id, .int .u8 e.m.pr, .int .u32 e.m.ttl, .int .u32 e.m.cnt, .string ⟨e.m.ids.toArray⟩, .slice A3 1 c3] from rfl]
          have HQ5 := Lib.hid (hq.less (Z' := []) (by simp))
          have hep := (hwf.ok e hmem).pr
          have heo := HO4.out e hmem
          have HE := Lib.hid he
          have HMEM := Lib.hid hmem
          have HMIN := Lib.hid hmin
          have HWF := Lib.hid hwf
          obtain ⟨E, hE⟩ : ∃ E, e.id = E := ⟨_, rfl⟩
          obtain ⟨p, hp⟩ : ∃ p, e.m.pr = p := ⟨_, rfl⟩
          rw [hE, hp] at heo
          rw [hp] at hep
          rw [hE, hp]
          have HEE := Lib.hid hE
          have HPP := Lib.hid hp
          -- rounds
          clear h o hq hmem hmin hwf h0 HR4 hE hp he
          rcases heo with hlt | ⟨heq, hid⟩
          · have hlt' : ¬ (p : Int) = P := by omega
            rcases (show x1 ≤ 0 ∨ 0 < x1 by omega) with hx | hx
            · go_wp2_with fail
              have hq6 := (HQ5.out.alloc (.cells #[.int .i64 E, .int .u8 p, .int .u32 e.m.ttl, .int .u32 e.m.cnt, .string ⟨e.m.ids.toArray⟩, .slice A3 1 c3] 34)).less (Z' := []) (by simp)
              refine (qf_set hq6 E ⟨2, 0, 0, []⟩).mono ?_
              rintro r w6 ⟨v6, rfl, -, hqa6, -⟩
              have hs6 := set_acc HMEM.out 0 []
              rw [HEE.out] at hs6
              rw [hs6] at hqa6 ⊢
              rw [show deadM (less [E] R, 0, (none : Option En)).2.2 v6 = .agg #[.int .u8 0, .int .u32 0, .int .u32 0, .string ⟨#[]⟩, .slice none 0 0] from rfl]
              have HQA := Lib.hid hqa6
              clear hq6 hqa6 hs6
              go_wp2_with fail
              go_roundw
              case rel =>
                refine ⟨p, E, j + 1, less [E] R, by omega, rfl, rfl, by go_num, (HQA.out.alloc _).less (by simp), ?_, fun x hx => HY4.out x (mem_less_sub hx), fun x hx => ?_⟩
                · have h1 := less_len HMEM.out HWF.out.sorted
                  rw [HEE.out] at h1
                  have h2 := HRK.out
                  omega
                · have h1 := HMIN.out x (mem_less_sub hx)
                  rw [HEE.out, HPP.out] at h1
                  rcases h1 with rfl | h1
                  · exact absurd HEE.out (by have := (mem_less.1 hx).2; simpa using this)
                  · exact h1
              case measure => simp [intOf]; omega
            · cases hrem : ((j : Int) % (1 + x1 % 7) == 0) with
              | false =>
                go_wp2_with fail
                have hq6 := (HQ5.out.alloc (.cells #[.int .i64 E, .int .u8 p, .int .u32 e.m.ttl, .int .u32 e.m.cnt, .string ⟨e.m.ids.toArray⟩, .slice A3 1 c3] 34)).less (Z' := []) (by simp)
                refine (qf_set hq6 E ⟨2, 0, 0, []⟩).mono ?_
                rintro r w6 ⟨v6, rfl, -, hqa6, -⟩
                have hs6 := set_acc HMEM.out 0 []
                rw [HEE.out] at hs6
                rw [hs6] at hqa6 ⊢
                rw [show deadM (less [E] R, 0, (none : Option En)).2.2 v6 = .agg #[.int .u8 0, .int .u32 0, .int .u32 0, .string ⟨#[]⟩, .slice none 0 0] from rfl]
                have HQA := Lib.hid hqa6
                clear hq6 hqa6 hs6
                go_wp2_with fail
                go_roundw
                case rel =>
                  refine ⟨p, E, j + 1, less [E] R, by omega, rfl, rfl, by go_num, (HQA.out.alloc _).less (by simp), ?_, fun x hx => HY4.out x (mem_less_sub hx), fun x hx => ?_⟩
                  · have h1 := less_len HMEM.out HWF.out.sorted
                    rw [HEE.out] at h1
                    have h2 := HRK.out
                    omega
                  · have h1 := HMIN.out x (mem_less_sub hx)
                    rw [HEE.out, HPP.out] at h1
                    rcases h1 with rfl | h1
                    · exact absurd HEE.out (by have := (mem_less.1 hx).2; simpa using this)
                    · exact h1
                case measure => simp [intOf]; omega
              | true =>
                go_wp2_with fail
                have hi5 := Bx.new w3 34 [.int .i64 E, .int .u8 p, .int .u32 e.m.ttl, .int .u32 e.m.cnt, .string ⟨e.m.ids.toArray⟩, .slice A3 1 c3]
                have hq6 := HQ5.out.alloc (.cells #[.int .i64 E, .int .u8 p, .int .u32 e.m.ttl, .int .u32 e.m.cnt, .string ⟨e.m.ids.toArray⟩, .slice A3 1 c3] 34)
                obtain ⟨g5, hg5⟩ : ∃ g5, w3.heap.size = g5 := ⟨_, rfl⟩
                rw [hg5] at hi5 hq6 ⊢
                refine (qf_set hq6 E ⟨4, 0, 0, []⟩).mono ?_
                rintro r w4 ⟨v4, rfl, -, hq7, kz7⟩
                have hs := set_rel HMEM.out (HY4.out e HMEM.out).held HWF.out.sorted 0 []
                rw [HEE.out] at hs
                rw [hs] at hq7 ⊢
                rw [show deadM (R, 0, (none : Option En)).2.2 v4 = .agg #[.int .u8 0, .int .u32 0, .int .u32 0, .string ⟨#[]⟩, .slice none 0 0] from rfl]
                have HQ7 := Lib.hid hq7
                have HI7 := Lib.hid (kz7.bx hi5 (.inl (by simp)))
                clear hi5 hq6 hq7 kz7 hs hg5
                go_wp2_with fail
                have hq8 := (HQ7.out.alloc (.cells #[.int .u8 0, .int .u32 0, .int .u32 0, .string ⟨#[]⟩, .slice none 0 0] 32)).less (Z' := [g5]) (by simp)
                have hi8 := HI7.out.alloc (.cells #[.int .u8 0, .int .u32 0, .int .u32 0, .string ⟨#[]⟩, .slice none 0 0] 32)
                refine (qf_acq hq8 5).mono ?_
                rintro r w5 (⟨h, -⟩ | ⟨e', v, h, rfl, o, hq9, kz9⟩)
                · rw [HE.out] at h; cases h
                cases HE.out.symm.trans h
                obtain ⟨A5, c5, hv5, -⟩ := o.rd
                rw [(HY4.out e HMEM.out).body] at hv5
                subst hv5
                rw [show (itc (e, .slice A5 1 c5)).toArray = #[.int .i64 e.id, .int .u8 e.m.pr, .int .u32 e.m.ttl, .int .u32 e.m.cnt, .string ⟨e.m.ids.toArray⟩, .slice A5 1 c5] from rfl]
                rw [HEE.out, HPP.out]
                have HQ9 := Lib.hid (hq9.less (Z' := []) (by simp))
                have hi9 := kz9.bx hi8 (.inl (by simp))
                have z0 := hi9.cell 0 _ rfl
                have z1 := hi9.cell 1 _ rfl
                have z2 := hi9.lt
                clear hq8 hi8 h o hq9 kz9 hi9
                go_wp2_with fail
                have hq10 := (HQ9.out.alloc (.cells #[.int .i64 E, .int .u8 p, .int .u32 e.m.ttl, .int .u32 e.m.cnt, .string ⟨e.m.ids.toArray⟩, .slice A5 1 c5] 34)).less (Z' := []) (by simp)
                refine (qf_set hq10 E ⟨2, 0, 0, []⟩).mono ?_
                rintro r w10 ⟨v10, rfl, -, hqa10, -⟩
                have hs10 := set_acc HMEM.out 0 []
                rw [HEE.out] at hs10
                rw [hs10] at hqa10 ⊢
                rw [show deadM (less [E] R, 0, (none : Option En)).2.2 v10 = .agg #[.int .u8 0, .int .u32 0, .int .u32 0, .string ⟨#[]⟩, .slice none 0 0] from rfl]
                have HQA := Lib.hid hqa10
                clear hq10 hqa10 hs10
                go_wp2_with fail
                go_roundw
                case rel =>
                  refine ⟨p, E, j + 1, less [E] R, by omega, rfl, rfl, by go_num, (HQA.out.alloc _).less (by simp), ?_, fun x hx => HY4.out x (mem_less_sub hx), fun x hx => ?_⟩
                  · have h1 := less_len HMEM.out HWF.out.sorted
                    rw [HEE.out] at h1
                    have h2 := HRK.out
                    omega
                  · have h1 := HMIN.out x (mem_less_sub hx)
                    rw [HEE.out, HPP.out] at h1
                    rcases h1 with rfl | h1
                    · exact absurd HEE.out (by have := (mem_less.1 hx).2; simpa using this)
                    · exact h1
                case measure => simp [intOf]; omega
          · subst heq
            rcases (show x1 ≤ 0 ∨ 0 < x1 by omega) with hx | hx
            · go_wp2_with fail
              have hq6 := (HQ5.out.alloc (.cells #[.int .i64 E, .int .u8 p, .int .u32 e.m.ttl, .int .u32 e.m.cnt, .string ⟨e.m.ids.toArray⟩, .slice A3 1 c3] 34)).less (Z' := []) (by simp)
              refine (qf_set hq6 E ⟨2, 0, 0, []⟩).mono ?_
              rintro r w6 ⟨v6, rfl, -, hqa6, -⟩
              have hs6 := set_acc HMEM.out 0 []
              rw [HEE.out] at hs6
              rw [hs6] at hqa6 ⊢
              rw [show deadM (less [E] R, 0, (none : Option En)).2.2 v6 = .agg #[.int .u8 0, .int .u32 0, .int .u32 0, .string ⟨#[]⟩, .slice none 0 0] from rfl]
              have HQA := Lib.hid hqa6
              clear hq6 hqa6 hs6
              go_wp2_with fail
              go_roundw
              case rel =>
                refine ⟨p, E, j + 1, less [E] R, by omega, rfl, rfl, by go_num, (HQA.out.alloc _).less (by simp), ?_, fun x hx => HY4.out x (mem_less_sub hx), fun x hx => ?_⟩
                · have h1 := less_len HMEM.out HWF.out.sorted
                  rw [HEE.out] at h1
                  have h2 := HRK.out
                  omega
                · have h1 := HMIN.out x (mem_less_sub hx)
                  rw [HEE.out, HPP.out] at h1
                  rcases h1 with rfl | h1
                  · exact absurd HEE.out (by have := (mem_less.1 hx).2; simpa using this)
                  · exact h1
              case measure => simp [intOf]; omega
            · cases hrem : ((j : Int) % (1 + x1 % 7) == 0) with
              | false =>
                go_wp2_with fail
                have hq6 := (HQ5.out.alloc (.cells #[.int .i64 E, .int .u8 p, .int .u32 e.m.ttl, .int .u32 e.m.cnt, .string ⟨e.m.ids.toArray⟩, .slice A3 1 c3] 34)).less (Z' := []) (by simp)
                refine (qf_set hq6 E ⟨2, 0, 0, []⟩).mono ?_
                rintro r w6 ⟨v6, rfl, -, hqa6, -⟩
                have hs6 := set_acc HMEM.out 0 []
                rw [HEE.out] at hs6
                rw [hs6] at hqa6 ⊢
                rw [show deadM (less [E] R, 0, (none : Option En)).2.2 v6 = .agg #[.int .u8 0, .int .u32 0, .int .u32 0, .string ⟨#[]⟩, .slice none 0 0] from rfl]
                have HQA := Lib.hid hqa6
                clear hq6 hqa6 hs6
                go_wp2_with fail
                go_roundw
                case rel =>
                  refine ⟨p, E, j + 1, less [E] R, by omega, rfl, rfl, by go_num, (HQA.out.alloc _).less (by simp), ?_, fun x hx => HY4.out x (mem_less_sub hx), fun x hx => ?_⟩
                  · have h1 := less_len HMEM.out HWF.out.sorted
                    rw [HEE.out] at h1
                    have h2 := HRK.out
                    omega
                  · have h1 := HMIN.out x (mem_less_sub hx)
                    rw [HEE.out, HPP.out] at h1
                    rcases h1 with rfl | h1
                    · exact absurd HEE.out (by have := (mem_less.1 hx).2; simpa using this)
                    · exact h1
                case measure => simp [intOf]; omega
              | true =>
                go_wp2_with fail
                have hi5 := Bx.new w3 34 [.int .i64 E, .int .u8 p, .int .u32 e.m.ttl, .int .u32 e.m.cnt, .string ⟨e.m.ids.toArray⟩, .slice A3 1 c3]
                have hq6 := HQ5.out.alloc (.cells #[.int .i64 E, .int .u8 p, .int .u32 e.m.ttl, .int .u32 e.m.cnt, .string ⟨e.m.ids.toArray⟩, .slice A3 1 c3] 34)
                obtain ⟨g5, hg5⟩ : ∃ g5, w3.heap.size = g5 := ⟨_, rfl⟩
                rw [hg5] at hi5 hq6 ⊢
                refine (qf_set hq6 E ⟨4, 0, 0, []⟩).mono ?_
                rintro r w4 ⟨v4, rfl, -, hq7, kz7⟩
                have hs := set_rel HMEM.out (HY4.out e HMEM.out).held HWF.out.sorted 0 []
                rw [HEE.out] at hs
                rw [hs] at hq7 ⊢
                rw [show deadM (R, 0, (none : Option En)).2.2 v4 = .agg #[.int .u8 0, .int .u32 0, .int .u32 0, .string ⟨#[]⟩, .slice none 0 0] from rfl]
                have HQ7 := Lib.hid hq7
                have HI7 := Lib.hid (kz7.bx hi5 (.inl (by simp)))
                clear hi5 hq6 hq7 kz7 hs hg5
                go_wp2_with fail
                have hq8 := (HQ7.out.alloc (.cells #[.int .u8 0, .int .u32 0, .int .u32 0, .string ⟨#[]⟩, .slice none 0 0] 32)).less (Z' := [g5]) (by simp)
                have hi8 := HI7.out.alloc (.cells #[.int .u8 0, .int .u32 0, .int .u32 0, .string ⟨#[]⟩, .slice none 0 0] 32)
                refine (qf_acq hq8 5).mono ?_
                rintro r w5 (⟨h, -⟩ | ⟨e', v, h, rfl, o, hq9, kz9⟩)
                · rw [HE.out] at h; cases h
                cases HE.out.symm.trans h
                obtain ⟨A5, c5, hv5, -⟩ := o.rd
                rw [(HY4.out e HMEM.out).body] at hv5
                subst hv5
                rw [show (itc (e, .slice A5 1 c5)).toArray = #[.int .i64 e.id, .int .u8 e.m.pr, .int .u32 e.m.ttl, .int .u32 e.m.cnt, .string ⟨e.m.ids.toArray⟩, .slice A5 1 c5] from rfl]
                rw [HEE.out, HPP.out]
                have HQ9 := Lib.hid (hq9.less (Z' := []) (by simp))
                have hi9 := kz9.bx hi8 (.inl (by simp))
                have z0 := hi9.cell 0 _ rfl
                have z1 := hi9.cell 1 _ rfl
                have z2 := hi9.lt
                clear hq8 hi8 h o hq9 kz9 hi9
                go_wp2_with fail
                have hq10 := (HQ9.out.alloc (.cells #[.int .i64 E, .int .u8 p, .int .u32 e.m.ttl, .int .u32 e.m.cnt, .string ⟨e.m.ids.toArray⟩, .slice A5 1 c5] 34)).less (Z' := []) (by simp)
                refine (qf_set hq10 E ⟨2, 0, 0, []⟩).mono ?_
                rintro r w10 ⟨v10, rfl, -, hqa10, -⟩
                have hs10 := set_acc HMEM.out 0 []
                rw [HEE.out] at hs10
                rw [hs10] at hqa10 ⊢
                rw [show deadM (less [E] R, 0, (none : Option En)).2.2 v10 = .agg #[.int .u8 0, .int .u32 0, .int .u32 0, .string ⟨#[]⟩, .slice none 0 0] from rfl]
                have HQA := Lib.hid hqa10
                clear hq10 hqa10 hs10
                go_wp2_with fail
                go_roundw
                case rel =>
                  refine ⟨p, E, j + 1, less [E] R, by omega, rfl, rfl, by go_num, (HQA.out.alloc _).less (by simp), ?_, fun x hx => HY4.out x (mem_less_sub hx), fun x hx => ?_⟩
                  · have h1 := less_len HMEM.out HWF.out.sorted
                    rw [HEE.out] at h1
                    have h2 := HRK.out
                    omega
                  · have h1 := HMIN.out x (mem_less_sub hx)
                    rw [HEE.out, HPP.out] at h1
                    rcases h1 with rfl | h1
                    · exact absurd HEE.out (by have := (mem_less.1 hx).2; simpa using this)
                    · exact h1
                case measure => simp [intOf]; omega
        · obtain rfl : j = k := by omega
          obtain rfl : R = [] := List.eq_nil_of_length_eq_zero (by have := HRK.out; omega)
          go_wp2_with fail
          refine (qf_acq0 HR4.out 5 rfl).mono ?_
          rintro r w5 ⟨rfl, hq5, -⟩
          have HQ5 := Lib.hid hq5
          rw [show zItem.toArray = #[.int .i64 0, .int .u8 0, .int .u32 0, .int .u32 0, .string ⟨#[]⟩, .slice none 0 0] from rfl]
          clear hq5
          go_wp2_with fail
          have hq6 := (HQ5.out.alloc (.cells #[.int .i64 0, .int .u8 0, .int .u32 0, .int .u32 0, .string ⟨#[]⟩, .slice none 0 0] 34)).less (Z' := []) (by simp)
          refine (qf_len hq6).mono ?_
          rintro r w8 ⟨rfl, b8⟩
          have HQ8 := Lib.hid (hq6.below b8)
          rw [show (ordQ false []).length = 0 from rfl, show (ordQ true []).length = 0 from rfl]
          clear hq6 b8
          go_wp2_with fail
          refine (works_calls _).mono ?_
          rintro e w9 ⟨rfl, b9⟩
          have B9 := Lib.hid b9
          clear b9
          go_wp2_with fail
          go_ret
          exact ⟨rfl, below_then HQ8.out.old HQ8.out.old.size B9.out⟩
end Go.Proofs.Ytkoihcfdchcgdaa

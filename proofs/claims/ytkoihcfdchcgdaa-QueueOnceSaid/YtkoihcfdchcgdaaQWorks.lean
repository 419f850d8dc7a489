import Derived.Test.YtkoihcfdchcgdaaQOwn2
import Derived.Lib.SlBytesConst
set_option linter.unusedVariables false
set_option linter.unusedSimpArgs false
namespace Go.Proofs.Ytkoihcfdchcgdaa
open Go.RowKit Go.Shelf

def mgA : Mg := ⟨4, 0, 0, [], [97]⟩
def mgB : Mg := ⟨9, 0, 0, [], [98]⟩
def mgZ : Mg := ⟨0, 0, 0, [], []⟩
def enA : En := ⟨1, mgA, 0, false⟩
def enB (c : Nat) (h : Bool) : En := ⟨2, { mgB with cnt := c }, 0, h⟩
def ocM : Oc := ⟨5, 1, 0, []⟩
theorem wf_mgA : WfM mgA := ⟨by decide, by decide, by decide, by decide, by decide⟩
theorem wf_mgB : WfM mgB := ⟨by decide, by decide, by decide, by decide, by decide⟩

theorem rd_const {w : World} {C : Array Value} {l : List UInt8} {n : Nat} {fr : Nat × Nat} (h : C = (u8s l).toArray) (hn : l.length = n) (hm : n ≤ 9223372036854775807) : Rd (w.alloc (.cells C 5 fr)) (some ⟨w.heap.size, 0, none⟩) n l := by
  subst h hn
  exact rd_of_heap (sp := []) (by rw [List.append_nil]; exact heap_alloc_new w _) (Nat.le_refl _) hm
set_option maxRecDepth 100000 in
set_option maxHeartbeats 4000000 in
theorem works_calls (w : World) : Calls Try.prog 9 #[] w fun e w' => e = .returned (.bool true) ∧ Below w.heap.size w w' := by
  go_enter Try.func9, Try.ntmps9
  go_wp2_with fail
  refine (qf_new 2 2 (Below.refl _ w) (by decide) (by decide) (by decide)).mono ?_
  rintro r w1 ⟨rfl, hq, -⟩
  have HQ := Lib.hid hq
  obtain ⟨q, hqd⟩ : ∃ q, w.heap.size = q := ⟨_, rfl⟩
  rw [hqd] at HQ
  rw [hqd]
  have HG := Lib.hid hqd
  clear hq hqd
  have kc := fun (w : World) (C : Array Value) (n c : Nat) => Lib.run_convert_bytes_const (P := Try.prog) w 22 5 C n c Try.underlying22 Try.underlying5
  go_wp2_with fail
  refine (qf_put_ok (HQ.out.alloc _) mgA (some ⟨w1.heap.size, 0, none⟩) 1 1 rfl (rd_const rfl rfl (by decide)) wf_mgA (by decide) (by decide) 0).mono ?_
  rintro r w2 ⟨rfl, hq, -⟩
  have HQ2 := Lib.hid (hq.less (Z' := []) (by simp))
  clear hq HQ
  go_wp2_with fail
  refine (qf_put_ok (HQ2.out.alloc _) mgB (some ⟨w2.heap.size, 0, none⟩) 1 1 rfl (rd_const rfl rfl (by decide)) wf_mgB (by decide) (by decide) 0).mono ?_
  rintro r w3 ⟨rfl, hq, -⟩
  have HQ3 : Hid (QF w w3 [] q 2 2 2 [enA, enB 0 false]) := Lib.hid (hq.less (Z' := []) (by simp))
  clear hq HQ2 kc
  go_wp2_with fail
  refine (qf_put_full HQ3.out mgZ none 0 0 rfl rfl rfl 0).mono ?_
  rintro r w4 ⟨rfl, hb⟩
  have HQ4 := Lib.hid (HQ3.out.below hb)
  clear hb HQ3
  go_wp2_with fail
  have ha1 : acqQ [enA, enB 0 false] 1 = some (enB 0 false) := by kernel_rfl
  refine (qf_acq HQ4.out 1).mono ?_
  rintro r w5 (⟨h, -⟩ | ⟨e, v, h, rfl, o, hq, -⟩)
  · rw [ha1] at h; cases h
  cases ha1.symm.trans h
  obtain ⟨A5, c5, rfl, -⟩ := o.rd
  have HQ5 : Hid (QF w w5 [] q 2 2 2 [enA, enB 0 true]) := Lib.hid (hq.less (Z' := []) (by simp))
  rw [show (itc (enB 0 false, .slice A5 (enB 0 false).m.body.length c5)).toArray = #[.int .i64 2, .int .u8 9, .int .u32 0, .int .u32 0, .string ⟨#[]⟩, .slice A5 1 c5] from rfl]
  clear hq HQ4 ha1 h o
  go_wp2_with fail
  obtain ⟨g5, hg5⟩ : ∃ g5, w5.heap.size = g5 := ⟨_, rfl⟩
  have hq5 := ((HQ5.out.alloc (.cells #[.int .i64 2, .int .u8 9, .int .u32 0, .int .u32 0, .string ⟨#[]⟩, .slice A5 1 c5] 34)).alloc (.cells #[.int .u8 5, .int .u64 1, .int .u64 0, .string ⟨#[]⟩] 41))
  have hb5 := ((Bx.new w5 34 [.int .i64 2, .int .u8 9, .int .u32 0, .int .u32 0, .string ⟨#[]⟩, .slice A5 1 c5]).alloc (.cells #[.int .u8 5, .int .u64 1, .int .u64 0, .string ⟨#[]⟩] 41))
  have hc5 := Bx.new (w5.alloc (.cells #[.int .i64 2, .int .u8 9, .int .u32 0, .int .u32 0, .string ⟨#[]⟩, .slice A5 1 c5] 34)) 41 [.int .u8 5, .int .u64 1, .int .u64 0, .string ⟨#[]⟩]
  simp only [World.size_alloc] at hq5 hc5
  rw [hg5] at hq5 hb5 hc5 ⊢
  have hs1 : setQ 2 [enA, enB 0 true] 2 ocM = ([enA, enB 1 false], 0, none) := by kernel_rfl
  refine (qf_set hq5 2 ocM).mono ?_
  rintro r w6 ⟨v6, rfl, -, hq6, kz6⟩
  rw [hs1] at hq6 ⊢
  have hb6 := kz6.bx hb5 (.inl (by simp))
  have hc6 := kz6.bx hc5 (.inl (by simp))
  have HQ6 := Lib.hid hq6
  have HB6 := Lib.hid hb6
  have HC6 := Lib.hid hc6
  rw [show deadM ([enA, enB 1 false], 0, (none : Option En)).2.2 v6 = .agg #[.int .u8 0, .int .u32 0, .int .u32 0, .string ⟨#[]⟩, .slice none 0 0] from rfl]
  clear hq5 hb5 hc5 hs1 hq6 hb6 hc6 kz6 HQ5 hg5
  go_wp2_with fail
  have hq7 := HQ6.out.alloc (.cells #[.int .u8 0, .int .u32 0, .int .u32 0, .string ⟨#[]⟩, .slice none 0 0] 32)
  have hb7 := HB6.out.alloc (.cells #[.int .u8 0, .int .u32 0, .int .u32 0, .string ⟨#[]⟩, .slice none 0 0] 32)
  have hc7 := HC6.out.alloc (.cells #[.int .u8 0, .int .u32 0, .int .u32 0, .string ⟨#[]⟩, .slice none 0 0] 32)
  have ha2 : acqQ [enA, enB 1 false] 2 = some (enB 1 false) := by kernel_rfl
  refine (qf_acq (hq7.less (Z' := [g5 + 1, g5]) (by simp)) 2).mono ?_
  rintro r w7 (⟨h, -⟩ | ⟨e, v, h, rfl, o, hq8, kz8⟩)
  · rw [ha2] at h; cases h
  cases ha2.symm.trans h
  obtain ⟨A8, c8, rfl, -⟩ := o.rd
  have HQ8 : Hid (QF w w7 [g5 + 1, g5] q 2 2 2 [enA, enB 1 true]) := Lib.hid (hq8.less (by simp))
  have HB8 := Lib.hid (kz8.bx hb7 (.inl (by simp)))
  have HC8 := Lib.hid (kz8.bx hc7 (.inl (by simp)))
  rw [show (itc (enB 1 false, .slice A8 (enB 1 false).m.body.length c8)).toArray = #[.int .i64 2, .int .u8 9, .int .u32 0, .int .u32 1, .string ⟨#[]⟩, .slice A8 1 c8] from rfl]
  have o0 := HC8.out.cell 0 _ rfl
  have o1 := HC8.out.cell 1 _ rfl
  have o2 := HC8.out.cell 2 _ rfl
  have o3 := HC8.out.cell 3 _ rfl
  have o4 := HC8.out.lt
  clear hq7 hb7 hc7 ha2 h o hq8 kz8 HQ6 HB6 HC6
  go_wp2_with fail
  obtain ⟨g8, hg8⟩ : ∃ g8, w7.heap.size = g8 := ⟨_, rfl⟩
  have hq9 := HQ8.out.alloc (.cells #[.int .i64 2, .int .u8 9, .int .u32 0, .int .u32 1, .string ⟨#[]⟩, .slice A8 1 c8] 34)
  have hb9 := HB8.out.alloc (.cells #[.int .i64 2, .int .u8 9, .int .u32 0, .int .u32 1, .string ⟨#[]⟩, .slice A8 1 c8] 34)
  have hi9 := Bx.new w7 34 [.int .i64 2, .int .u8 9, .int .u32 0, .int .u32 1, .string ⟨#[]⟩, .slice A8 1 c8]
  rw [hg8] at hq9 hi9 ⊢
  have hs2 : setQ 2 [enA, enB 1 true] 2 ocM = ([enA], 0, some (enB 2 true)) := by kernel_rfl
  refine (qf_set hq9 2 ocM).mono ?_
  rintro r w10 ⟨v10, rfl, hd10, hq10, kz10⟩
  rw [hs2] at hq10 hd10 ⊢
  obtain ⟨A10, c10, rfl, -⟩ := hd10 _ rfl
  have HQ10 := Lib.hid hq10
  have HB10 := Lib.hid (kz10.bx hb9 (.inl (by simp)))
  have HI10 := Lib.hid (kz10.bx hi9 (.inl (by simp)))
  rw [show deadM ([enA], 0, some (enB 2 true)).2.2 (.slice A10 (enB 2 true).m.body.length c10) = .agg #[.int .u8 9, .int .u32 0, .int .u32 2, .string ⟨#[]⟩, .slice A10 1 c10] from rfl]
  clear hq9 hb9 hi9 hs2 hd10 hq10 kz10 HQ8 HB8 HC8 o0 o1 o2 o3 o4 hg8
  go_wp2_with fail
  obtain ⟨g10, hg10⟩ : ∃ g10, w10.heap.size = g10 := ⟨_, rfl⟩
  have hq11 := HQ10.out.alloc (.cells #[.int .u8 9, .int .u32 0, .int .u32 2, .string ⟨#[]⟩, .slice A10 1 c10] 32)
  have hb11 := HB10.out.alloc (.cells #[.int .u8 9, .int .u32 0, .int .u32 2, .string ⟨#[]⟩, .slice A10 1 c10] 32)
  have hi11 := HI10.out.alloc (.cells #[.int .u8 9, .int .u32 0, .int .u32 2, .string ⟨#[]⟩, .slice A10 1 c10] 32)
  have hm11 := Bx.new w10 32 [.int .u8 9, .int .u32 0, .int .u32 2, .string ⟨#[]⟩, .slice A10 1 c10]
  rw [hg10] at hq11 hm11 ⊢
  refine (qf_len hq11).mono ?_
  rintro r w12 ⟨rfl, hb12⟩
  have HQ12 := Lib.hid (hq11.below hb12)
  have HB12 := Lib.hid (hb11.below hb12)
  have HI12 := Lib.hid (hi11.below hb12)
  have HM12 := Lib.hid (hm11.below hb12)
  rw [show (ordQ false [enA]).length = 1 from rfl, show (ordQ true [enA]).length = 0 from rfl]
  clear hq11 hb11 hi11 hm11 hb12 HQ10 HB10 HI10 hg10
  go_wp2_with fail
  refine (qf_list HQ12.out).mono ?_
  rintro r w13 ⟨v13, its, rfl, hits, hown, -, hb13⟩
  have HQ13 := Lib.hid (HQ12.out.below hb13)
  have HB13 := HB12.out.below hb13
  have HI13 := HI12.out.below hb13
  have HM13 := HM12.out.below hb13
  obtain ⟨vb, hits2⟩ : ∃ vb, its = [(enA, vb)] := by
    cases its with
    | nil => cases hits
    | cons x its =>
      cases its with
      | nil =>
        obtain ⟨x1, x2⟩ := x
        simp only [List.map_cons, List.map_nil] at hits
        have : x1 = enA := (List.cons.inj hits).1
        exact ⟨x2, by rw [this]⟩
      | cons y its => cases (List.cons.inj hits).2
  subst hits2
  obtain ⟨A13, c13, rfl, hr13⟩ := hown.rd
  have m0 := HB13.cell 0 _ rfl
  have m1 := HI13.cell 0 _ rfl
  have m2 := HI13.cell 3 _ rfl
  have m3 := HM13.cell 2 _ rfl
  obtain ⟨ad, rfl, m4⟩ := hr13.cell 0 (.int .i64 1) rfl
  clear hown hr13 hb13 HQ12 HB12 HI12 HM12 HB13 HI13 HM13
  have m5 : w13.cell? ad = some (.int .i64 1) := m4
  have hl1 : ([(enA, vb)] : List (En × Value)).length = 1 := rfl
  rw [hl1]
  clear m4
  go_wp2_with fail
  go_ret
  exact ⟨rfl, HQ13.out.old⟩
end Go.Proofs.Ytkoihcfdchcgdaa

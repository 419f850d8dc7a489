import Derived.Test.YtgmoodcojpbbdaaOwnM
set_option linter.unusedVariables false
set_option linter.unusedSimpArgs false
namespace Go.Proofs.Ytgmoodcojpbbdaa
open Go.RowKit

def wa : Ms := [([97], oz), ([98], oz), ([99], oz), ([100], oz)]
def wb : Ms := [([97], oz), ([98], ⟨2, 0, 0, []⟩), ([99], oz), ([100], oz)]
def wth : Ms := [([97], ⟨4, 0, 0, []⟩), ([99], oz)]
def wc : Ms := [([97], ⟨4, 0, 0, []⟩), ([98], ⟨2, 0, 0, []⟩), ([99], oz), ([100], oz)]
def wst : List St := [([97], 3, ⟨4, 0, 0, []⟩), ([98], 4, ⟨2, 0, 0, []⟩), ([99], 2, oz), ([100], 1, oz)]
def wd : Ms := [([97], ⟨4, 0, 0, []⟩), ([99], oz), ([100], oz)]
set_option maxRecDepth 100000 in
set_option maxHeartbeats 4000000 in
theorem works_calls (w : World) :
    Calls Try.prog 11 #[] w fun e w' => e = .returned (.bool true) ∧ Below w.heap.size w w' := by
  go_enter Try.func11, Try.ntmps11
  go_wp2_with fail
  refine (mf_new w w (Below.refl _ _)).mono ?_
  rintro e w1 ⟨rfl, m1, -⟩
  have M1 := Lib.hid m1
  clear m1
  go_wp2_with fail
  refine (mf_add [97] M1.out (n := 0) (ms' := [([97], oz)]) (by decide)).mono ?_
  rintro e w2 ⟨F2, rfl, m2, -, -⟩
  have M2 := Lib.hid m2
  clear m2 M1
  go_wp2_with fail
  refine (mf_add [98] M2.out (n := 0) (ms' := [([97], oz), ([98], oz)]) (by decide)).mono ?_
  rintro e w3 ⟨F3, rfl, m3, -, -⟩
  have M3 := Lib.hid m3
  clear m3 M2
  go_wp2_with fail
  refine (mf_add [99] M3.out (n := 0) (ms' := [([97], oz), ([98], oz), ([99], oz)]) (by decide)).mono ?_
  rintro e w4 ⟨F4, rfl, m4, -, -⟩
  have M4 := Lib.hid m4
  clear m4 M3
  go_wp2_with fail
  refine (mf_add [100] M4.out (n := 0) (ms' := wa) (by decide)).mono ?_
  rintro e w5 ⟨F5, rfl, m5, -, -⟩
  have M5 := Lib.hid m5
  clear m5 M4
  go_wp2_with fail
  refine (mf_add [97] M5.out (n := 8) (ms' := wa) (by decide)).mono ?_
  rintro e w6 ⟨F6, rfl, m6, -, -⟩
  have M6 := Lib.hid m6
  clear m6 M5
  go_wp2_with fail
  refine (mf_tell [98] ⟨2, 0, 0, []⟩ M6.out (b := true) (ms' := wb) (by decide)).mono ?_
  rintro e w7 ⟨F7, rfl, m7, -, -⟩
  have M7 := Lib.hid m7
  clear m7 M6
  go_wp2_with fail
  refine (mf_tell [98] ⟨4, 0, 0, []⟩ M7.out (b := false) (ms' := wb) (by decide)).mono ?_
  rintro e w8 ⟨F8, rfl, m8, -, -⟩
  have M8 := Lib.hid m8
  clear m8 M7
  go_wp2_with fail
  refine (mf_meet (F := F8) (th := wth) (ms' := wc) (st := wst) _ _ _ (M8.out.below (below_alloc _ _)) (by decide) (rdc_box (mcs wth) 2 5 rfl (by decide) (by decide)) ?_ (by decide)).mono ?_
  · rintro ad had hF
    cases had
    exact Nat.lt_irrefl _ (M8.out.is.lts _ hF)
  rintro e w9 ⟨v9, rfl, o9, m9, t9⟩
  have M9 := Lib.hid m9
  obtain ⟨g, cp, rfl, hg0, hg1, hg2⟩ := o9.form (by decide)
  have c1 := (o9.cell_at 1 (.int .i64 3) (by rfl)).1
  have c2 := (o9.cell_at 2 (.int .u8 4) (by rfl)).1
  have c3 := (o9.cell_at 7 (.int .i64 4) (by rfl)).1
  have c4 := (o9.cell_at 8 (.int .u8 2) (by rfl)).1
  have c5 := (o9.cell_at 13 (.int .i64 2) (by rfl)).1
  have c6 := (o9.cell_at 19 (.int .i64 1) (by rfl)).1
  have hl : wst.length = 4 := rfl
  rw [hl]
  clear m9 M8 o9 t9 hg0
  go_wp2_with fail
  refine (mf_settle [98] (o := ⟨2, 0, 0, []⟩) (b := true) (ms' := wd) M9.out (by decide)).mono ?_
  rintro e w10 ⟨F10, rfl, m10, -, -⟩
  have M10 := Lib.hid m10
  clear m10 M9 c1 c2 c3 c4 c5 c6 hg1 hg2
  go_wp2_with fail
  have B10 := Lib.hid ((below_alloc w10 (.cells #[.int .u8 2, .int .u64 0, .int .u64 0, .string ⟨#[]⟩] 33)).trans ((below_alloc _ (.cells #[.string ⟨#[97]⟩, .int .u8 0, .int .u64 0, .int .u64 0, .string ⟨#[]⟩] 47)).mono (by simp)))
  have x0 := stays_ (below_alloc (w10.alloc (.cells #[.int .u8 2, .int .u64 0, .int .u64 0, .string ⟨#[]⟩] 33)) (.cells #[.string ⟨#[97]⟩, .int .u8 0, .int .u64 0, .int .u64 0, .string ⟨#[]⟩] 47)) (OutAt.new w10 ⟨2, 0, 0, []⟩ 33).1
  have r0 := rdc_box (w := w10.alloc (.cells #[.int .u8 2, .int .u64 0, .int .u64 0, .string ⟨#[]⟩] 33)) (e := 47) (mcs [([97], oz)]) 1 5 rfl (by decide) (by decide)
  simp only [World.size_alloc] at r0
  refine (mf_keep (F := F10) (th := [([97], oz)]) (ms' := [([97], ⟨4, 0, 0, []⟩)]) (gl := [[99], [100]]) _ _ _ (M10.out.below B10.out) (by decide) r0 ?_ (by decide)).mono ?_
  · rintro ad had hF
    cases had
    exact absurd (M10.out.is.lts _ hF) (by simp; try omega)
  rintro e w11 ⟨v11, F11, rfl, o11, m11, t11, -, -⟩
  have M11 := Lib.hid m11
  have x1 := t11.cell x0 (fun hF => absurd (M10.out.is.lts _ hF) (by simp))
  obtain ⟨g, cp, rfl, hg0, hg1, hg2⟩ := o11.form (by decide)
  have c1 := (o11.cell_at 0 (str [99]) (by rfl)).1
  have c2 := (o11.cell_at 1 (str [100]) (by rfl)).1
  unfold str at c1 c2
  have hl : ([[99], [100]] : List (List UInt8)).length = 2 := rfl
  rw [hl]
  clear m11 M10 o11 t11 hg0 x0 r0 B10
  go_wp2_with fail
  refine (mf_list M11.out (by decide)).mono ?_
  rintro e w12 ⟨v12, rfl, o12, m12, -⟩
  obtain ⟨A12, c12, rfl⟩ := o12.slice
  have hl : ([([97], ⟨4, 0, 0, []⟩)] : Ms).length = 1 := rfl
  rw [hl]
  have M12 := Lib.hid m12
  clear m12 M11 o12
  go_wp2_with fail
  go_ret
  exact ⟨rfl, M12.out.old⟩
end Go.Proofs.Ytgmoodcojpbbdaa

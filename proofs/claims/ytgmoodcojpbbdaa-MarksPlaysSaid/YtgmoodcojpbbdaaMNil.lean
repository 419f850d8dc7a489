import Derived.Test.YtgmoodcojpbbdaaVast
set_option linter.unusedVariables false
set_option linter.unusedSimpArgs false
namespace Go.Proofs.Ytgmoodcojpbbdaa
open Go.RowKit

theorem vast_any (A : Option Addr) (n c : Nat) (l : List OpD) (b : Bool) (hb : vastL l = b) (w : World) (h : RdC 7 w A n c (opcs l)) :
    Calls Try.prog 10 #[.slice A n c] w fun e w' => e = .returned (.bool b) ∧ w = w' := by
  subst hb
  exact vast_calls A n c l w h

set_option maxRecDepth 100000 in
set_option maxHeartbeats 2000000 in
theorem mnil_calls (d : OpD) (w : World) (hr : RdC 5 w d.A d.n d.c (mcs d.th)) :
    Calls Try.prog 8 #[opv d.K d.t d.o d.A d.n d.c] w fun e w' => e = .returned (.bool true) ∧ Below w.heap.size w w' := by
  have HR := Lib.hid hr
  have HBOX := Lib.hid (fun (W : World) => (rdc_box (w := W) (e := 41) (opc d) 1 7 rfl (by intro u hu; simp [opc] at hu; rcases hu with rfl | rfl | rfl | rfl | rfl | rfl | rfl <;> rfl) (by decide)))
  obtain ⟨K, t, o, A, n, c, th⟩ := d
  unfold opv
  simp only at HR ⊢
  clear hr
  cases hv : vastL [⟨K, t, o, A, n, c, th⟩] with
  | true =>
    have HV := Lib.hid hv
    clear hv
    go_enter Try.func8, Try.ntmps8
    go_wp2_with fail
    have hbx := HBOX.out (w.alloc (.cells #[.int .i64 K, .string ⟨t.toArray⟩, .int .u8 o.k, .int .u64 o.a, .int .u64 o.b, .string ⟨o.c.toArray⟩, .slice A n c] 41))
    simp only [World.size_alloc] at hbx
    refine (vast_any _ 1 1 [⟨K, t, o, A, n, c, th⟩] true HV.out _ hbx).mono ?_
    rintro e w1 ⟨rfl, rfl⟩
    clear hbx
    go_wp2_with fail
    refine (works_calls _).mono ?_
    rintro e w2 ⟨rfl, b2⟩
    have B2 := Lib.hid b2
    clear b2
    go_wp2_with fail
    go_ret
    exact ⟨rfl, ((below_alloc w _).trans ((below_alloc _ _).mono (by simp))).trans (B2.out.mono (by simp; omega))⟩
  | false =>
    have HV := Lib.hid hv
    have hn : n ≤ 100 := by
      simp only [vastL, List.any_cons, List.any_nil, vastD, Bool.or_false, Bool.or_eq_false_iff] at hv
      have := of_decide_eq_false hv.2.2
      omega
    clear hv
    go_enter Try.func8, Try.ntmps8
    go_wp2_with fail
    have hbx := HBOX.out (w.alloc (.cells #[.int .i64 K, .string ⟨t.toArray⟩, .int .u8 o.k, .int .u64 o.a, .int .u64 o.b, .string ⟨o.c.toArray⟩, .slice A n c] 41))
    simp only [World.size_alloc] at hbx
    refine (vast_any _ 1 1 [⟨K, t, o, A, n, c, th⟩] false HV.out _ hbx).mono ?_
    rintro e w1 ⟨rfl, rfl⟩
    clear hbx
    go_wp2_with fail
    refine (does_nil K t o A n c th _ (HR.out.below ((below_alloc w _).trans ((below_alloc _ _).mono (by simp)))) hn).mono ?_
    rintro e w2 ⟨rfl, b2⟩
    obtain ⟨N, hN⟩ : ∃ N : Nat, (if K = 0 then 2 else 0) = N := ⟨_, rfl⟩
    have BW := Lib.hid (((below_alloc w _).trans ((below_alloc _ _).mono (by simp))).trans (b2.mono (by simp; omega)))
    have hk : w2.cell? ⟨w.heap.size, 0, none⟩ = some (.int .i64 K) := stays b2 (by go_simp) (by simp; omega)
    have hz : w.heap.size < w2.heap.size := World.block_lt_of_cell? _ _ hk
    rw [hN]
    unfold tdv
    simp only
    by_cases hK : K = 0
    · rw [if_pos hK] at hN
      subst hN hK
      clear b2
      go_wp2_with fail
      refine (list_nil _).mono ?_
      rintro e w3 ⟨rfl, rfl⟩
      go_wp2_with fail
      refine (works_calls _).mono ?_
      rintro e w4 ⟨rfl, b4⟩
      go_wp2_with fail
      go_ret
      exact ⟨rfl, (BW.out.alloc BW.out.size _).trans (b4.mono (by have := BW.out.size; simp; omega))⟩
    · rw [if_neg hK] at hN
      subst hN
      have e1 : (K == 0) = false := by simp [hK]
      clear b2
      go_wp2_with fail
      refine (list_nil _).mono ?_
      rintro e w3 ⟨rfl, rfl⟩
      go_wp2_with fail
      refine (works_calls _).mono ?_
      rintro e w4 ⟨rfl, b4⟩
      go_wp2_with fail
      go_ret
      exact ⟨rfl, (BW.out.alloc BW.out.size _).trans (b4.mono (by have := BW.out.size; simp; omega))⟩
theorem mnil_row {w : World} (d : OpD) (hr : RdC 5 w d.A d.n d.c (mcs d.th)) :
    Calls Try.prog 8 #[opv d.K d.t d.o d.A d.n d.c] w fun e w' => e = .returned (.bool true) ∧ Below w.heap.size w w' := mnil_calls d w hr
end Go.Proofs.Ytgmoodcojpbbdaa

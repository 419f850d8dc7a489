import Derived.Test.YtkoihcfdchcgdaaQOpen
import Derived.Test.YtkoihcfdchcgdaaQWorks
import Derived.Test.YtkoihcfdchcgdaaQOwn2
set_option linter.unusedVariables false
set_option linter.unusedSimpArgs false
namespace Go.Proofs.Ytkoihcfdchcgdaa
open Go.RowKit Go.Shelf

def zMg : Mg := ⟨0, 0, 0, [], []⟩
def zEn : En := ⟨0, zMg, 0, false⟩
theorem bdv_nil (W : World) : Bdv W (.slice none 0 0) [] := Bdv.of_own (B := 0) OwnB.nil_
theorem len_nil (w : World) : Calls Try.prog 14 #[.pointer none] w fun e w' => e = .returned (.tuple #[.int .i64 0, .int .i64 0]) ∧ Below w.heap.size w w' :=
  qlen_calls w none (fun _ : En => .bool true) (fun _ => []) (seqP_nil w _) (by simp)
theorem list_nil (w : World) : Calls Try.prog 20 #[.pointer none] w fun e w' => ∃ v, e = .returned v ∧ (∃ A c, v = .slice A 0 c) ∧ Below w.heap.size w w' := by
  refine (qlist_calls w none (fun _ => []) (fun _ => 0) (fun _ => .slice none 0 0) (seqP_nil w _) (by simp) (by simp)).mono ?_
  rintro r w' ⟨v, its, rfl, hi, ho, -, hb⟩
  obtain rfl : its = [] := by simpa using hi
  obtain ⟨A, c, hv, -⟩ := ho.rd
  exact ⟨v, rfl, ⟨A, c, hv⟩, hb⟩
theorem acq_nil (w : World) (now : Int) : Calls Try.prog 12 #[.pointer none, .int .i64 now] w fun r w' => r = .returned (.tuple #[.agg zItem.toArray, .bool false]) ∧ Below w.heap.size w w' := by
  refine (qacq_calls w none now (fun _ => []) (fun _ => 0) (fun _ => .slice none 0 0) (seqP_nil w _) (by simp)).mono ?_
  rintro r w' (⟨-, rfl, hb⟩ | ⟨e, v, hf, -⟩)
  · exact ⟨rfl, hb⟩
  · cases hf
theorem does_nil {w : World} (d : OpD) (hk : OkD w d) (hn : d.x.m.body.length ≤ 4096) :
    Calls Try.prog 18 #[.pointer none, .agg (opd d).toArray] w fun r w' => ∃ (A : Option Addr) (n c E : Nat), r = .returned (.agg (tdc 0 (.slice A n c) false E).toArray) ∧ (d.x.kind = 0 ∨ d.x.kind = 2 → E = 2) ∧ Below w.heap.size w w' := by
  have hI : NI w [] w := ⟨Below.refl _ _, by simp⟩
  have hni : ∀ {Z : List Nat} {W W' : World}, NI w Z W → Below W.heap.size W W' → NI w Z W' ∧ Kz Z w W W' := fun h hb => ⟨(gi_ni w).below h hb, (gi_ni w).kz h hb⟩
  by_cases h0 : d.x.kind = 0
  · refine (does_put (gi_ni w) (gi_ni w) hI none d.x d.A d.c _ rfl hk.rd hn h0 0 2 fun Z W A c h hr => ?_).mono ?_
    · refine (qput_nil W d.x.m (.slice A d.x.m.body.length c) rfl d.x.now).mono ?_
      rintro r w' ⟨rfl, hb⟩
      exact ⟨rfl, hni h hb⟩
    · rintro r w' ⟨rfl, h1, -⟩
      exact ⟨none, 0, 0, 2, rfl, fun _ => rfl, h1.1⟩
  by_cases h1 : d.x.kind = 1
  · refine (does_acq (gi_ni w) (gi_ni w) hI none d.x _ ⟨_, _, _, rfl⟩ h1 zEn false (by decide) fun Z W h => ?_).mono ?_
    · refine (acq_nil W d.x.now).mono ?_
      rintro r w' ⟨rfl, hb⟩
      exact ⟨.slice none 0 0, rfl, OwnB.nil_, hni h hb⟩
    · rintro r w' ⟨sv, v, rfl, hm, h3, -⟩
      obtain ⟨A, c, rfl, -⟩ := hm.1.rd
      exact ⟨A, _, c, 0, rfl, fun h => by omega, h3.1⟩
  by_cases h2 : d.x.kind = 2
  · refine (does_set (gi_ni w) (gi_ni w) hI none d.x _ ⟨_, _, _, rfl⟩ h2 zMg false 2 fun Z W h => ?_).mono ?_
    · refine (qset_nil W d.x.id d.x.o).mono ?_
      rintro r w' ⟨rfl, hb⟩
      exact ⟨.slice none 0 0, rfl, bdv_nil _, hni h hb⟩
    · rintro r w' ⟨sv, v, rfl, hm, h3, -⟩
      obtain ⟨A, c, rfl, -⟩ := hm.1.rd
      exact ⟨A, _, c, 2, rfl, fun _ => rfl, h3.1⟩
  by_cases h3 : d.x.kind = 3
  · refine (does_exp (gi_ni w) (gi_ni w) hI none d.x _ ⟨_, _, _, rfl⟩ h3 [] fun Z W h => ?_).mono ?_
    · refine (qexp_nil W d.x.now).mono ?_
      rintro r w' ⟨rfl, hb⟩
      exact ⟨.slice none 0 0, [], rfl, rfl, ⟨OwnC.nil_, by simp⟩, hni h hb⟩
    · rintro r w' ⟨sv, ms, rfl, -, hm, h3, -⟩
      obtain ⟨A, c, rfl, -⟩ := hm.1.rd
      exact ⟨A, _, c, 0, rfl, fun h => by omega, h3.1⟩
  · refine (does_other (gi_ni w) hI none d.x _ ⟨_, _, _, rfl⟩ h0 h1 h2 h3).mono ?_
    rintro r w' ⟨rfl, h3, -⟩
    exact ⟨none, 0, 0, 0, rfl, fun h => by omega, h3.1⟩

theorem vast_any (A : Option Addr) (n c : Nat) (l : List OpD) (b : Bool) (hb : vastL l = b) (w : World) (h : RdC 12 w A n c (opds l)) :
    Calls Try.prog 15 #[.slice A n c] w fun e w' => e = .returned (.bool b) ∧ w = w' := by
  subst hb
  exact vast_calls A n c l w h
set_option maxRecDepth 100000 in
set_option maxHeartbeats 4000000 in
theorem nil_row {w : World} (d : OpD) (hk : OkD w d) :
    Calls Try.prog 8 #[.agg (opd d).toArray] w fun e w' => e = .returned (.bool true) ∧ Below w.heap.size w w' := by
  have HK := Lib.hid hk
  have HBOX := Lib.hid (fun (W : World) => (rdc_box (w := W) (e := 57) (opd d) 1 12 rfl (opd_one d) (by decide)))
  clear hk
  have hopd : (opd d).toArray = #[.int .i64 d.x.kind, .int .i64 d.x.id, .int .u8 d.x.m.pr, .int .u32 d.x.m.ttl, .int .u32 d.x.m.cnt, .string ⟨d.x.m.ids.toArray⟩, .slice d.A d.x.m.body.length d.c, .int .u8 d.x.o.k, .int .u64 d.x.o.a, .int .u64 d.x.o.b, .string ⟨d.x.o.c.toArray⟩, .int .i64 d.x.now] := by unfold opd opc str; rfl
  have HO := Lib.hid hopd
  rw [hopd]
  clear hopd
  cases hv : vastL [d] with
  | true =>
    have HV := Lib.hid hv
    clear hv
    go_enter Try.func8, Try.ntmps8
    go_wp2_with fail
    have hbx := HBOX.out (w.alloc (.cells (opd d).toArray 57))
    simp only [World.size_alloc] at hbx
    rw [HO.out] at hbx
    refine (vast_any _ 1 1 [d] true HV.out _ (by unfold opds; simpa using hbx)).mono ?_
    rintro e w1 ⟨rfl, rfl⟩
    clear hbx
    go_wp2_with fail
    refine (works_calls _).mono ?_
    rintro e w2 ⟨rfl, b2⟩
    have B2 := Lib.hid b2
    clear b2
    go_wp2_with fail
    go_ret
    exact ⟨rfl, ((below_alloc w _).trans ((below_alloc _ _).mono (by simp))).trans (B2.out.mono (by simp; omega))⟩
  | false =>
    have HV := Lib.hid hv
    have hn : d.x.m.body.length ≤ 4096 := by
      simp only [vastL, List.any_cons, List.any_nil, vastD, Bool.or_false, Bool.or_eq_false_iff] at hv
      have := of_decide_eq_false hv.2.1
      omega
    clear hv
    go_enter Try.func8, Try.ntmps8
    go_wp2_with fail
    have hbx := HBOX.out (w.alloc (.cells (opd d).toArray 57))
    simp only [World.size_alloc] at hbx
    rw [HO.out] at hbx
    refine (vast_any _ 1 1 [d] false HV.out _ (by unfold opds; simpa using hbx)).mono ?_
    rintro e w1 ⟨rfl, rfl⟩
    clear hbx
    go_wp2_with fail
    rw [← HO.out]
    refine (does_nil d (HK.out.below ((below_alloc w _).trans ((below_alloc _ _).mono (by simp)))) hn).mono ?_
    rintro e w2 ⟨A, n, c, E, rfl, hE, b2⟩
    have BW := Lib.hid (((below_alloc w (.cells (opd d).toArray 57)).trans ((below_alloc _ (.cells (opd d).toArray 57)).mono (by simp))).trans (b2.mono (by simp; omega)))
    rw [HO.out] at b2
    have hk0 : w2.cell? ⟨w.heap.size, 0, none⟩ = some (.int .i64 d.x.kind) := stays b2 (by go_simp) (by simp; omega)
    rw [HO.out]
    unfold tdc
    have hz : w.heap.size < w2.heap.size := World.block_lt_of_cell? _ _ hk0
    obtain ⟨K, hK⟩ : ∃ K, d.x.kind = K := ⟨_, rfl⟩
    rw [hK] at hE hk0
    obtain ⟨TT, hTT⟩ : ∃ TT, (Value.agg #[Value.int .i64 d.x.kind, .int .i64 d.x.id, .int .u8 d.x.m.pr, .int .u32 d.x.m.ttl, .int .u32 d.x.m.cnt, .string ⟨d.x.m.ids.toArray⟩, .slice d.A d.x.m.body.length d.c, .int .u8 d.x.o.k, .int .u64 d.x.o.a, .int .u64 d.x.o.b, .string ⟨d.x.o.c.toArray⟩, .int .i64 d.x.now]) = TT := ⟨_, rfl⟩
    rw [hTT]
    clear hK hTT b2
    by_cases hK0 : K = 0
    · subst hK0
      obtain rfl := hE (.inl rfl)
      clear hE
      go_wp2_with fail
      refine (len_nil _).mono ?_
      rintro e w3 ⟨rfl, b3⟩
      have B3 := Lib.hid b3
      have k3 : w3.cell? ⟨w2.heap.size, 0, none⟩ = some (.int .i64 0) := stays b3 (by go_simp) (by simp)
      have k4 : w3.cell? ⟨w2.heap.size, 2, none⟩ = some (.bool false) := stays b3 (by go_simp) (by simp)
      have k5 : w3.cell? ⟨w2.heap.size, 3, none⟩ = some (.int .i64 2) := stays b3 (by go_simp) (by simp)
      have k6 : w3.cell? ⟨w.heap.size, 0, none⟩ = some (.int .i64 0) := stays b3 (by go_simp) (by simp; omega)
      clear b3
      go_wp2_with fail
      refine (list_nil _).mono ?_
      rintro e w4 ⟨v4, rfl, ⟨A4, c4, rfl⟩, b4⟩
      have B4 := Lib.hid b4
      clear b4
      go_wp2_with fail
      refine (works_calls _).mono ?_
      rintro e w5 ⟨rfl, b5⟩
      have B5 := Lib.hid b5
      clear b5
      go_wp2_with fail
      go_ret
      have h3 := B3.out
      have h23 := BW.out.alloc BW.out.size (.cells #[.int .i64 0, .slice A n c, .bool false, .int .i64 2] 54)
      have h33 := below_then h23 h23.size h3
      have h43 := below_then h33 h33.size B4.out
      exact ⟨rfl, below_then h43 h43.size B5.out⟩
    by_cases hK2 : K = 2
    · subst hK2
      obtain rfl := hE (.inr rfl)
      clear hE hK0
      go_wp2_with fail
      refine (len_nil _).mono ?_
      rintro e w3 ⟨rfl, b3⟩
      have B3 := Lib.hid b3
      have k3 : w3.cell? ⟨w2.heap.size, 0, none⟩ = some (.int .i64 0) := stays b3 (by go_simp) (by simp)
      have k4 : w3.cell? ⟨w2.heap.size, 2, none⟩ = some (.bool false) := stays b3 (by go_simp) (by simp)
      have k5 : w3.cell? ⟨w2.heap.size, 3, none⟩ = some (.int .i64 2) := stays b3 (by go_simp) (by simp)
      have k6 : w3.cell? ⟨w.heap.size, 0, none⟩ = some (.int .i64 2) := stays b3 (by go_simp) (by simp; omega)
      clear b3
      go_wp2_with fail
      refine (list_nil _).mono ?_
      rintro e w4 ⟨v4, rfl, ⟨A4, c4, rfl⟩, b4⟩
      have B4 := Lib.hid b4
      clear b4
      go_wp2_with fail
      refine (works_calls _).mono ?_
      rintro e w5 ⟨rfl, b5⟩
      have B5 := Lib.hid b5
      clear b5
      go_wp2_with fail
      go_ret
      have h3 := B3.out
      have h23 := BW.out.alloc BW.out.size (.cells #[.int .i64 0, .slice A n c, .bool false, .int .i64 2] 54)
      have h33 := below_then h23 h23.size h3
      have h43 := below_then h33 h33.size B4.out
      exact ⟨rfl, below_then h43 h43.size B5.out⟩
    · have e1 : (K == 0) = false := by simp [hK0]
      have e2 : (K == 2) = false := by simp [hK2]
      clear hE
      go_wp2_with fail
      refine (len_nil _).mono ?_
      rintro e w3 ⟨rfl, b3⟩
      have B3 := Lib.hid b3
      have k3 : w3.cell? ⟨w2.heap.size, 0, none⟩ = some (.int .i64 0) := stays b3 (by go_simp) (by simp)
      have k4 : w3.cell? ⟨w2.heap.size, 2, none⟩ = some (.bool false) := stays b3 (by go_simp) (by simp)
      have k5 : w3.cell? ⟨w2.heap.size, 3, none⟩ = some (.int .i64 E) := stays b3 (by go_simp) (by simp)
      have k6 : w3.cell? ⟨w.heap.size, 0, none⟩ = some (.int .i64 K) := stays b3 (by go_simp) (by simp; omega)
      clear b3
      go_wp2_with fail
      refine (list_nil _).mono ?_
      rintro e w4 ⟨v4, rfl, ⟨A4, c4, rfl⟩, b4⟩
      have B4 := Lib.hid b4
      clear b4
      go_wp2_with fail
      refine (works_calls _).mono ?_
      rintro e w5 ⟨rfl, b5⟩
      have B5 := Lib.hid b5
      clear b5
      go_wp2_with fail
      go_ret
      have h3 := B3.out
      have h23 := BW.out.alloc BW.out.size (.cells #[.int .i64 0, .slice A n c, .bool false, .int .i64 E] 54)
      have h33 := below_then h23 h23.size h3
      have h43 := below_then h33 h33.size B4.out
      exact ⟨rfl, below_then h43 h43.size B5.out⟩
end Go.Proofs.Ytkoihcfdchcgdaa

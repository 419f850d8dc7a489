import Derived.Test.YtafmhpcfjmannaaDoI
set_option linter.unusedVariables false
set_option linter.unusedSimpArgs false
namespace Go.Proofs.Ytafmhpcfjmannaa
open Go.RowKit

theorem rangeI_nil' (f l : Nat) (w : World) (hf : f < 4294967296) (hl : l < 4294967296) :
    Calls Try.prog 18 #[.pointer none, .int .u32 f, .int .u32 l] w fun e w' => e = .returned (.slice none 0 0) ∧ Below w.heap.size w w' := (rangeI_nil f l w hf hl).mono fun e w' ⟨h1, h2⟩ => ⟨h1, by subst h2; exact Below.refl _ _⟩
theorem leaveI_nil' (h : Int) (w : World) :
    Calls Try.prog 21 #[.pointer none, .int .i64 h] w fun e w' => e = .returned (.slice none 0 0) ∧ Below w.heap.size w w' := (leaveI_nil h w).mono fun e w' ⟨h1, h2⟩ => ⟨h1, by subst h2; exact Below.refl _ _⟩
def DnP (K : Int) (w : World) (e : Ending) (w' : World) : Prop :=
  ∃ (x : Nat) (A : Option Addr) (n c : Nat), e = .returned (.agg #[.int .i64 x, .slice none 0 0, .slice A n c, .int .u32 0, .bool false]) ∧ (K = 0 → x = 2) ∧ (K = 5 → n = 0) ∧ Below w.heap.size w w'

set_option maxRecDepth 100000 in
set_option maxHeartbeats 4000000 in
theorem does_nil {w : World} {d : OpI} (hd : OkI d) :
    Calls Try.prog 14 #[.pointer none, .agg #[.int .i64 d.K, .int .u32 d.id, .int .u32 d.last, .int .i64 d.k.h, .string ⟨d.k.t.toArray⟩]] w (DnP d.K w) := by
  obtain ⟨hd1, hd2⟩ := hd
  obtain ⟨K, i, l, kh, kt⟩ := d
  simp only at hd1 hd2 ⊢
  have HB := Lib.hid (show ∀ (X : Obj) w2, Below (((w.alloc X).alloc TZ).alloc TZ).heap.size (((w.alloc X).alloc TZ).alloc TZ) w2 → Below w.heap.size w w2 from fun X w2 b => (((below_alloc w X).trans ((below_alloc _ TZ).mono (by simp))).trans ((below_alloc _ TZ).mono (by simp <;> omega))).trans (b.mono (by simp <;> omega)))
  have HB3 := Lib.hid (show ∀ w2 w3, Below w.heap.size w w2 → Tch [w.heap.size + 1, w.heap.size + 1 + 1] w2 w3 → Below w.heap.size w w3 from fun w2 w3 b t => b.trans (t.below b.size (fun k hk => by simp at hk; omega)))
  by_cases k0 : K = 0
  · subst k0
    go_enter Try.func14, Try.ntmps14
    go_wp2_with fail
    refine (putI_nil i ⟨kh, kt⟩ _).mono ?_
    rintro e w2 ⟨rfl, b2⟩
    obtain ⟨k1, k2, hz⟩ := keepT (F := []) (fun _ hk => absurd hk List.not_mem_nil) (Tch.of_below [] b2)
    obtain ⟨⟨p0, p1, p2, p3, p4⟩, p5⟩ := k1.out
    obtain ⟨⟨q0, q1, q2, q3, q4⟩, q5⟩ := k2.out
    simp only [tz] at p0 p1 p2 p3 p4 q0 q1 q2 q3 q4
    have hz1 : w.heap.size + 1 < w2.heap.size := by omega
    have K1 := Lib.hid k1
    have B2 := Lib.hid (HB.out _ _ b2)
    clear b2 k1 k2
    go_wp2_with fail
    refine forgetX (fun W => BoxV W (w.heap.size + 1) (.int .i64 2) (.slice none 0 0) (.slice none 0 0) (.int .u32 0) (.bool false) ∧ Tch [w.heap.size + 1, w.heap.size + 1 + 1] w2 W) ⟨?_, ?_⟩ ?_
    · with_reducible refine (BoxV.off K1.out.vals ?_).set5 _ _ _ _ _
      omega
    · repeat (first | with_reducible exact Tch.refl _ _ | with_reducible refine Tch.setCell ?_ _ (by simp) | with_reducible refine Tch.alloc ?_ _)
    rintro W3 ⟨hbx, t3⟩
    exact bodyPost_ret (results_vals rfl rfl hbx) rfl ⟨2, none, 0, 0, by simp [tdv], by simp, by simp, HB3.out _ _ B2.out t3⟩
  have n0 : (K == 0) = false := by rw [ibeq, decide_eq_false k0]
  by_cases k1 : K = 1
  · subst k1
    go_enter Try.func14, Try.ntmps14
    go_wp2_with fail
    refine (rangeI_nil' i l _ hd1 hd2).mono ?_
    rintro e w2 ⟨rfl, b2⟩
    obtain ⟨k1, k2, hz⟩ := keepT (F := []) (fun _ hk => absurd hk List.not_mem_nil) (Tch.of_below [] b2)
    obtain ⟨⟨p0, p1, p2, p3, p4⟩, p5⟩ := k1.out
    obtain ⟨⟨q0, q1, q2, q3, q4⟩, q5⟩ := k2.out
    simp only [tz] at p0 p1 p2 p3 p4 q0 q1 q2 q3 q4
    have hz1 : w.heap.size + 1 < w2.heap.size := by omega
    have K1 := Lib.hid k1
    have B2 := Lib.hid (HB.out _ _ b2)
    clear b2 k1 k2
    go_wp2_with fail
    refine forgetX (fun W => BoxV W (w.heap.size + 1) (.int .i64 0) (.slice none 0 0) (.slice none 0 0) (.int .u32 0) (.bool false) ∧ Tch [w.heap.size + 1, w.heap.size + 1 + 1] w2 W) ⟨?_, ?_⟩ ?_
    · with_reducible refine (BoxV.off K1.out.vals ?_).set5 _ _ _ _ _
      omega
    · repeat (first | with_reducible exact Tch.refl _ _ | with_reducible refine Tch.setCell ?_ _ (by simp) | with_reducible refine Tch.alloc ?_ _)
    rintro W3 ⟨hbx, t3⟩
    exact bodyPost_ret (results_vals rfl rfl hbx) rfl ⟨0, none, 0, 0, by simp [tdv], by simp, by simp, HB3.out _ _ B2.out t3⟩
  have n1 : (K == 1) = false := by rw [ibeq, decide_eq_false k1]
  by_cases k2 : K = 2
  · subst k2
    go_enter Try.func14, Try.ntmps14
    go_wp2_with fail
    refine (getI_nil i _).mono ?_
    rintro e w2 ⟨rfl, b2⟩
    obtain ⟨k1, k2, hz⟩ := keepT (F := []) (fun _ hk => absurd hk List.not_mem_nil) (Tch.of_below [] b2)
    have K1 := Lib.hid k1
    have B2 := Lib.hid (HB.out _ _ b2)
    have K2 := Lib.hid k2
    clear b2 k1 k2
    go_upto_region 9 with fail
    refine forget (fun W => KyAt W w2.heap.size 0 kz ∧ BoxT W (w.heap.size + 1) tz ∧ BoxT W (w.heap.size + 1 + 1) tz ∧ Below w2.heap.size w2 W ∧ w2.heap.size < W.heap.size) ⟨KyAt.new w2 kz _, (heap_alloc_old w2 _ (heap_lt K1.out)).trans K1.out, (heap_alloc_old w2 _ (heap_lt K2.out)).trans K2.out, below_alloc w2 _, by simp⟩ ?_
    rintro W ⟨⟨y0, y1⟩, k1, k2, bw, hzw⟩
    obtain ⟨⟨p0, p1, p2, p3, p4⟩, p5⟩ := k1.out
    obtain ⟨⟨q0, q1, q2, q3, q4⟩, q5⟩ := k2.out
    simp only [tz] at p0 p1 p2 p3 p4 q0 q1 q2 q3 q4
    have hz1 : w.heap.size + 1 < W.heap.size := by omega
    have hz2 : w.heap.size + 1 + 1 < W.heap.size := by omega
    have K1' := Lib.hid k1
    have BW := Lib.hid bw
    clear k1 k2 bw hz
    simp only [kz] at y0 y1
    go_wp2_with fail
    refine forgetX (fun W2 => BoxV W2 (w.heap.size + 1) (.int .i64 0) (.slice none 0 0) (.slice (some ⟨W.heap.size, 0, none⟩) 1 1) (.int .u32 0) (.bool false) ∧ Tch [w.heap.size + 1, w.heap.size + 1 + 1] W W2) ⟨?_, ?_⟩ ?_
    · have hne : w.heap.size + 1 ≠ w.heap.size + 1 + 1 := by omega
      with_reducible exact BoxV.alloc (BoxV.set5 (BoxV.off (BoxV.off (BoxV.off (BoxV.off (BoxV.off K1'.out.vals hne) hne) hne) hne) hne) _ _ _ _ _) _
    · repeat (first | with_reducible exact Tch.refl _ _ | with_reducible refine Tch.setCell ?_ _ (by simp) | with_reducible refine Tch.alloc ?_ _)
    rintro W3 ⟨hbx, t3⟩
    exact bodyPost_ret (results_vals rfl rfl hbx) rfl ⟨0, some ⟨W.heap.size, 0, none⟩, 1, 1, by simp [tdv], by simp, by simp, HB3.out _ _ (below_then B2.out B2.out.size BW.out) t3⟩
  have n2 : (K == 2) = false := by rw [ibeq, decide_eq_false k2]
  by_cases k3 : K = 3
  · subst k3
    go_enter Try.func14, Try.ntmps14
    go_wp2_with fail
    refine (findI_nil ⟨kh, kt⟩ _).mono ?_
    rintro e w2 ⟨rfl, b2⟩
    obtain ⟨k1, k2, hz⟩ := keepT (F := []) (fun _ hk => absurd hk List.not_mem_nil) (Tch.of_below [] b2)
    obtain ⟨⟨p0, p1, p2, p3, p4⟩, p5⟩ := k1.out
    obtain ⟨⟨q0, q1, q2, q3, q4⟩, q5⟩ := k2.out
    simp only [tz] at p0 p1 p2 p3 p4 q0 q1 q2 q3 q4
    have hz1 : w.heap.size + 1 < w2.heap.size := by omega
    have K1 := Lib.hid k1
    have B2 := Lib.hid (HB.out _ _ b2)
    clear b2 k1 k2
    go_wp2_with fail
    refine forgetX (fun W => BoxV W (w.heap.size + 1) (.int .i64 0) (.slice none 0 0) (.slice none 0 0) (.int .u32 0) (.bool false) ∧ Tch [w.heap.size + 1, w.heap.size + 1 + 1] w2 W) ⟨?_, ?_⟩ ?_
    · with_reducible refine (BoxV.off (BoxV.off K1.out.vals ?_) ?_).set5 _ _ _ _ _
      all_goals omega
    · repeat (first | with_reducible exact Tch.refl _ _ | with_reducible refine Tch.setCell ?_ _ (by simp) | with_reducible refine Tch.alloc ?_ _)
    rintro W3 ⟨hbx, t3⟩
    exact bodyPost_ret (results_vals rfl rfl hbx) rfl ⟨0, none, 0, 0, by simp [tdv], by simp, by simp, HB3.out _ _ B2.out t3⟩
  have n3 : (K == 3) = false := by rw [ibeq, decide_eq_false k3]
  by_cases k4 : K = 4
  · subst k4
    go_enter Try.func14, Try.ntmps14
    go_wp2_with fail
    refine (dropI_nil i _).mono ?_
    rintro e w2 ⟨rfl, b2⟩
    obtain ⟨k1, k2, hz⟩ := keepT (F := []) (fun _ hk => absurd hk List.not_mem_nil) (Tch.of_below [] b2)
    obtain ⟨⟨p0, p1, p2, p3, p4⟩, p5⟩ := k1.out
    obtain ⟨⟨q0, q1, q2, q3, q4⟩, q5⟩ := k2.out
    simp only [tz] at p0 p1 p2 p3 p4 q0 q1 q2 q3 q4
    have hz1 : w.heap.size + 1 < w2.heap.size := by omega
    have K1 := Lib.hid k1
    have B2 := Lib.hid (HB.out _ _ b2)
    clear b2 k1 k2
    go_wp2_with fail
    refine forgetX (fun W => BoxV W (w.heap.size + 1) (.int .i64 0) (.slice none 0 0) (.slice none 0 0) (.int .u32 0) (.bool false) ∧ Tch [w.heap.size + 1, w.heap.size + 1 + 1] w2 W) ⟨?_, ?_⟩ ?_
    · with_reducible refine (BoxV.off K1.out.vals ?_).set5 _ _ _ _ _
      omega
    · repeat (first | with_reducible exact Tch.refl _ _ | with_reducible refine Tch.setCell ?_ _ (by simp) | with_reducible refine Tch.alloc ?_ _)
    rintro W3 ⟨hbx, t3⟩
    exact bodyPost_ret (results_vals rfl rfl hbx) rfl ⟨0, none, 0, 0, by simp [tdv], by simp, by simp, HB3.out _ _ B2.out t3⟩
  have n4 : (K == 4) = false := by rw [ibeq, decide_eq_false k4]
  by_cases k5 : K = 5
  · subst k5
    go_enter Try.func14, Try.ntmps14
    go_wp2_with fail
    refine (leaveI_nil' kh _).mono ?_
    rintro e w2 ⟨rfl, b2⟩
    obtain ⟨k1, k2, hz⟩ := keepT (F := []) (fun _ hk => absurd hk List.not_mem_nil) (Tch.of_below [] b2)
    obtain ⟨⟨p0, p1, p2, p3, p4⟩, p5⟩ := k1.out
    obtain ⟨⟨q0, q1, q2, q3, q4⟩, q5⟩ := k2.out
    simp only [tz] at p0 p1 p2 p3 p4 q0 q1 q2 q3 q4
    have hz1 : w.heap.size + 1 < w2.heap.size := by omega
    have K1 := Lib.hid k1
    have B2 := Lib.hid (HB.out _ _ b2)
    clear b2 k1 k2
    go_wp2_with fail
    refine forgetX (fun W => BoxV W (w.heap.size + 1) (.int .i64 0) (.slice none 0 0) (.slice none 0 0) (.int .u32 0) (.bool false) ∧ Tch [w.heap.size + 1, w.heap.size + 1 + 1] w2 W) ⟨?_, ?_⟩ ?_
    · with_reducible refine (BoxV.off K1.out.vals ?_).set5 _ _ _ _ _
      omega
    · repeat (first | with_reducible exact Tch.refl _ _ | with_reducible refine Tch.setCell ?_ _ (by simp) | with_reducible refine Tch.alloc ?_ _)
    rintro W3 ⟨hbx, t3⟩
    exact bodyPost_ret (results_vals rfl rfl hbx) rfl ⟨0, none, 0, 0, by simp [tdv], by simp, by simp, HB3.out _ _ B2.out t3⟩
  have n5 : (K == 5) = false := by rw [ibeq, decide_eq_false k5]
  obtain ⟨k1', k2', hz⟩ := keepT (F := []) (X := .cells #[.int .i64 K, .int .u32 i, .int .u32 l, .int .i64 kh, .string ⟨kt.toArray⟩] 40) (fun _ hk => absurd hk List.not_mem_nil) (Tch.refl _ _)
  have K1 := Lib.hid k1'
  have KK := Lib.hid (And.intro k0 k5)
  clear k1' k2' hz
  go_enter Try.func14, Try.ntmps14
  go_wp2_with fail
  refine forgetX (fun W => BoxV W (w.heap.size + 1) (.int .i64 0) (.slice none 0 0) (.slice none 0 0) (.int .u32 0) (.bool false) ∧ Below w.heap.size w W) ⟨?_, ?_⟩ ?_
  · exact K1.out.vals
  · exact HB.out _ _ (Below.refl _ _)
  rintro W3 ⟨hbx, t3⟩
  exact bodyPost_ret (results_vals rfl rfl hbx) rfl ⟨0, none, 0, 0, by simp [tdv], fun h => absurd h KK.out.1, fun h => absurd h KK.out.2, t3⟩

theorem opc_one' (d : OpI) : ∀ u ∈ opc d, u.oneCell' = true := by
  intro u hu
  simp only [opc, List.mem_cons, List.not_mem_nil, or_false] at hu
  rcases hu with rfl | rfl | rfl | rfl | rfl <;> rfl
set_option maxRecDepth 100000 in
set_option maxHeartbeats 2000000 in
theorem inil_calls (d : OpI) (hd : OkI d) (w : World) :
    Calls Try.prog 8 #[.agg #[.int .i64 d.K, .int .u32 d.id, .int .u32 d.last, .int .i64 d.k.h, .string ⟨d.k.t.toArray⟩]] w fun e w' => e = .returned (.bool true) ∧ Below w.heap.size w w' := by
  have HD := Lib.hid hd
  have HBOX := Lib.hid (fun (W : World) => (rdc_box (w := W) (e := 40) (opc d) 1 5 rfl (opc_one' d) (by decide)))
  obtain ⟨K, i, l, kh, kt⟩ := d
  simp only at HBOX ⊢
  clear hd
  cases hv : vastL [⟨K, i, l, ⟨kh, kt⟩⟩] with
  | true =>
    have HV := Lib.hid hv
    clear hv
    go_enter Try.func8, Try.ntmps8
    go_wp2_with fail
    have hbx := HBOX.out (w.alloc (.cells #[.int .i64 K, .int .u32 i, .int .u32 l, .int .i64 kh, .string ⟨kt.toArray⟩] 40))
    simp only [World.size_alloc] at hbx
    refine (vast_any _ 1 1 [⟨K, i, l, ⟨kh, kt⟩⟩] HV.out _ hbx).mono ?_
    rintro e w1 ⟨rfl, rfl⟩
    clear hbx
    go_wp2_with fail
    refine (works_calls _).mono ?_
    rintro e w2 ⟨rfl, b2⟩
    have B2 := Lib.hid b2
    clear b2
    go_wp2_with fail
    go_ret
    exact ⟨rfl, ((below_alloc w _).trans ((below_alloc _ _).mono (by simp))).trans (B2.out.mono (by simp <;> omega))⟩
  | false =>
    have HV := Lib.hid hv
    clear hv
    go_enter Try.func8, Try.ntmps8
    go_wp2_with fail
    have hbx := HBOX.out (w.alloc (.cells #[.int .i64 K, .int .u32 i, .int .u32 l, .int .i64 kh, .string ⟨kt.toArray⟩] 40))
    simp only [World.size_alloc] at hbx
    refine (vast_any _ 1 1 [⟨K, i, l, ⟨kh, kt⟩⟩] HV.out _ hbx).mono ?_
    rintro e w1 ⟨rfl, rfl⟩
    clear hbx
    go_wp2_with fail
    refine (does_nil (d := ⟨K, i, l, ⟨kh, kt⟩⟩) HD.out).mono ?_
    rintro e w2 ⟨x, A, n, c, rfl, h1, h2, b2⟩
    have BW := Lib.hid (((below_alloc w _).trans ((below_alloc _ _).mono (by simp))).trans (b2.mono (by simp <;> omega)))
    have hk : w2.cell? ⟨w.heap.size, 0, none⟩ = some (.int .i64 K) := stays b2 (by go_simp) (by simp <;> omega)
    have hz : w.heap.size < w2.heap.size := World.block_lt_of_cell? _ _ hk
    have H1 := Lib.hid h1
    have H2 := Lib.hid h2
    clear b2 h1 h2
    simp only at H1 H2
    by_cases hK : K = 0
    · have hx : x = 2 := H1.out hK
      subst hx hK
      go_wp2_with fail
      refine (count_nil _).mono ?_
      rintro e w3 ⟨rfl, rfl⟩
      go_wp2_with fail
      refine (works_calls _).mono ?_
      rintro e w4 ⟨rfl, b4⟩
      go_wp2_with fail
      go_ret
      exact ⟨rfl, (BW.out.alloc BW.out.size _).trans (b4.mono (by have := BW.out.size; simp; omega))⟩
    · have e1 : (K == 0) = false := by simp [hK]
      by_cases hK5 : K = 5
      · have hn : n = 0 := H2.out hK5
        subst hn hK5
        go_wp2_with fail
        refine (count_nil _).mono ?_
        rintro e w3 ⟨rfl, rfl⟩
        go_wp2_with fail
        refine (works_calls _).mono ?_
        rintro e w4 ⟨rfl, b4⟩
        go_wp2_with fail
        go_ret
        exact ⟨rfl, (BW.out.alloc BW.out.size _).trans (b4.mono (by have := BW.out.size; simp; omega))⟩
      · have e2 : (K == 5) = false := by simp [hK5]
        go_wp2_with fail
        refine (count_nil _).mono ?_
        rintro e w3 ⟨rfl, rfl⟩
        go_wp2_with fail
        refine (works_calls _).mono ?_
        rintro e w4 ⟨rfl, b4⟩
        go_wp2_with fail
        go_ret
        exact ⟨rfl, (BW.out.alloc BW.out.size _).trans (b4.mono (by have := BW.out.size; simp; omega))⟩
theorem inil_row {w : World} (d : OpI) (hd : OkI d) :
    Calls Try.prog 8 #[.agg #[.int .i64 d.K, .int .u32 d.id, .int .u32 d.last, .int .i64 d.k.h, .string ⟨d.k.t.toArray⟩]] w fun e w' => e = .returned (.bool true) ∧ Below w.heap.size w w' := inil_calls d hd w
end Go.Proofs.Ytafmhpcfjmannaa

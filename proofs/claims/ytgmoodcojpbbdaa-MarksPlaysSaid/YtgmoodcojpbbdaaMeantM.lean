import Derived.Test.YtgmoodcojpbbdaaRf6
set_option linter.unusedVariables false
set_option linter.unusedSimpArgs false
namespace Go.Proofs.Ytgmoodcojpbbdaa
open Go.RowKit

/-- What is to be known behind what is meant. -/
def MmP (x : AnsM) (w : World) (a : Nat) (F : List Nat) (ms' : Ms) (e : Ending) (w' : World) : Prop :=
  ∃ F' lv sv, e = .returned (tvv x lv sv) ∧ OwnS w' w.heap.size lv x.l ∧ OwnT w' w.heap.size sv x.s ∧ Rf w' a F' ms' ∧ Tch F w w' ∧ (∀ k ∈ F', k ∈ F ∨ w.heap.size ≤ k)
theorem mm_fin {w w2 w' : World} {a : Nat} {F F' : List Nat} {ms' : Ms} {x : AnsM} {lv sv v : Value} {X : Obj} (hv : v = tvv x lv sv)
    (hm : Rf w2 a F' ms') (hF : ∀ k ∈ F, k < w.heap.size) (t2 : Tch F (((w.alloc X).alloc TZ).alloc TZ) w2) (f2 : ∀ k ∈ F', k ∈ F ∨ (((w.alloc X).alloc TZ).alloc TZ).heap.size ≤ k)
    (hl : OwnS w' w.heap.size lv x.l) (hk : OwnT w' w.heap.size sv x.s) (t3 : Tch [w.heap.size + 1, w.heap.size + 1 + 1] w2 w') :
    MmP x w a F ms' (.returned v) w' := by
  subst hv
  have hs : (((w.alloc X).alloc TZ).alloc TZ).heap.size = w.heap.size + 1 + 1 + 1 := by simp
  have t1 : Tch F w (((w.alloc X).alloc TZ).alloc TZ) := (((Tch.refl F w).alloc _).alloc _).alloc _
  have hne : ∀ k ∈ F', k ∉ [w.heap.size + 1, w.heap.size + 1 + 1] := fun k hk hm2 => by
    simp at hm2
    rcases f2 k hk with h | h
    · have := hF k h; omega
    · omega
  refine ⟨F', lv, sv, rfl, hl, hk, hm.tch t3 hne, (t1.trans_ t2).trans t3 (fun k hk => by simp at hk; right; omega), fun k hk => ?_⟩
  rcases f2 k hk with h | h
  · exact .inl h
  · right; omega
def RStp (v : Value) (w : World) (a : Nat) (F : List Nat) (ms' : Ms) (e : Ending) (w' : World) : Prop :=
  ∃ F', e = .returned v ∧ Rf w' a F' ms' ∧ Tch F w w' ∧ ∀ k ∈ F', k ∈ F ∨ w.heap.size ≤ k
theorem rf_add {w : World} {a : Nat} {F : List Nat} {ms ms' : Ms} (t : List UInt8) {n : Nat} (h : Rf w a F ms) (r : addM ms t = (n, ms')) :
    Calls Try.prog 30 #[.pointer (some ⟨a, 0, none⟩), .string ⟨t.toArray⟩] w (RStp (.int .i64 n) w a F ms') := by
  refine (radd_calls a F ms t w h).mono fun e w' ⟨F', h1, h2, h3, h4⟩ => ?_
  rw [r] at h1 h2
  exact ⟨F', h1, h2, h3, h4⟩
theorem rf_tell {w : World} {a : Nat} {F : List Nat} {ms ms' : Ms} (t : List UInt8) (o : Outc) {b : Bool} (h : Rf w a F ms) (hn : (ms.map (·.1)).Nodup) (r : tellM ms t o = (b, ms')) :
    Calls Try.prog 31 #[.pointer (some ⟨a, 0, none⟩), .string ⟨t.toArray⟩, .agg #[.int .u8 o.k, .int .u64 o.a, .int .u64 o.b, .string ⟨o.c.toArray⟩]] w (RStp (.bool b) w a F ms') := by
  refine (rtell_calls a F ms t o w h hn).mono fun e w' ⟨h1, h2, h3⟩ => ?_
  rw [r] at h1 h2
  exact ⟨F, h1, h2, h3, fun k hk => .inl hk⟩
theorem rf_get {w : World} {a : Nat} {F : List Nat} {ms : Ms} (t : List UInt8) {o : Outc} {b : Bool} (h : Rf w a F ms) (r : getM ms t = (o, b)) :
    Calls Try.prog 32 #[.pointer (some ⟨a, 0, none⟩), .string ⟨t.toArray⟩] w (RStp (.tuple #[.agg #[.int .u8 o.k, .int .u64 o.a, .int .u64 o.b, .string ⟨o.c.toArray⟩], .bool b]) w a F ms) := by
  refine (rget_calls a F ms t w h).mono fun e w' ⟨h1, h2⟩ => ?_
  rw [r] at h1
  exact ⟨F, h1, h.below h2, Tch.of_below F h2, fun k hk => .inl hk⟩
theorem rf_settle {w : World} {a : Nat} {F : List Nat} {ms ms' : Ms} (t : List UInt8) {o : Outc} {b : Bool} (h : Rf w a F ms) (hn : (ms.map (·.1)).Nodup) (hb : ms.length ≤ 1000000) (r : settleM ms t = (o, b, ms')) :
    Calls Try.prog 33 #[.pointer (some ⟨a, 0, none⟩), .string ⟨t.toArray⟩] w (RStp (.tuple #[.agg #[.int .u8 o.k, .int .u64 o.a, .int .u64 o.b, .string ⟨o.c.toArray⟩], .bool b]) w a F ms') :=
  (rsettle_calls a F ms t w h hn hb r).mono fun e w' h => h

set_option maxRecDepth 100000 in
set_option maxHeartbeats 4000000 in
theorem meantM_calls {w : World} {a : Nat} {F : List Nat} {ms ms' : Ms} {K : Int} {t : List UInt8} {o : Outc} {A : Option Addr} {n c : Nat} {th : Ms} {x : AnsM} (h : Rf w a F ms) (hnd : (ms.map (·.1)).Nodup) (hb : ms.length ≤ 1000000) (hr : RdC 5 w A n c (mcs th)) (hA : ∀ u, (mcs th)[0]? = some u → ∀ ad, A = some ad → ad.block ∉ F) (r : doM ms ⟨K, t, o, A, n, c, th⟩ = (x, ms')) :
    Calls Try.prog 16 #[.pointer (some ⟨a, 0, none⟩), .agg #[.int .i64 K, .string ⟨t.toArray⟩, .int .u8 o.k, .int .u64 o.a, .int .u64 o.b, .string ⟨o.c.toArray⟩, .slice A n c]] w (MmP x w a F ms') := by
  have H := Lib.hid h
  have HBB := Lib.hid hb
  have HND := Lib.hid hnd
  have HAA := Lib.hid hA
  have HR := Lib.hid (hr.below (((below_alloc w (.cells #[.int .i64 K, .string ⟨t.toArray⟩, .int .u8 o.k, .int .u64 o.a, .int .u64 o.b, .string ⟨o.c.toArray⟩, .slice A n c] 41)).trans ((below_alloc _ TZ).mono (by simp))).trans ((below_alloc _ TZ).mono (by simp <;> omega))))
  have hlc := hr.2.1
  have hmx := hr.2.2.1
  have H3 := Lib.hid (show Rf (((w.alloc (.cells #[.int .i64 K, .string ⟨t.toArray⟩, .int .u8 o.k, .int .u64 o.a, .int .u64 o.b, .string ⟨o.c.toArray⟩, .slice A n c] 41)).alloc TZ).alloc TZ) a F ms from
    h.below (((below_alloc w _).trans ((below_alloc _ _).mono (by simp))).trans ((below_alloc _ _).mono (by simp <;> omega))))
  have HF := Lib.hid h.lts
  have R := Lib.hid r
  clear h r hb hr hnd hA
  by_cases k0 : K = 0
  · subst k0
    obtain ⟨n', e2, hp⟩ : ∃ n' e2, addM ms t = (n', e2) := ⟨_, _, rfl⟩
    have HP := Lib.hid hp
    have r := R.out
    simp only [doM, if_true, hp] at r
    cases r
    clear hp
    go_enter Try.func16, Try.ntmps16
    go_wp2_with fail
    refine (rf_add t H3.out HP.out).mono ?_
    rintro e w2 ⟨F2, rfl, m2, t2, f2⟩
    obtain ⟨k1, k2, hz⟩ := keepW HF.out t2
    obtain ⟨p0, p1, p2, p3, p4, p5, p6, p7, p8⟩ := k1.cells
    obtain ⟨q0, q1, q2, q3, q4, q5, q6, q7, q8⟩ := k2.cells
    have hz1 : w.heap.size + 1 < w2.heap.size := by omega
    have K1 := Lib.hid k1
    have M2 := Lib.hid m2
    have T2 := Lib.hid t2
    have F2' := Lib.hid f2
    clear m2 t2 f2 k1 k2
    go_wp2_with fail
    refine forgetX (fun W => BoxW W (w.heap.size + 1) (.int .i64 n') (.int .u8 0) (.int .u64 0) (.int .u64 0) (.string ⟨#[]⟩) (.bool false) (.slice none 0 0) (.slice none 0 0) ∧ Tch [w.heap.size + 1, w.heap.size + 1 + 1] w2 W) ⟨?_, ?_⟩ ?_
    · have hne : w.heap.size + 1 ≠ w.heap.size + 1 + 1 := by omega
      with_reducible exact BoxW.set8 (BoxW.off K1.out hne) _ _ _ _ _ _ _ _
    · repeat (first | with_reducible exact Tch.refl _ _ | with_reducible refine Tch.setCell ?_ _ (by simp) | with_reducible refine Tch.alloc ?_ _)
    rintro W3 ⟨hbx, t3⟩
    exact bodyPost_ret (results_w rfl rfl hbx) rfl (mm_fin (lv := .slice none 0 0) (sv := .slice none 0 0) (by simp [tvv, oz]) M2.out HF.out T2.out F2'.out (nil_ownM _ _).1 (nil_ownM _ _).2 t3)
  have n0 : (K == 0) = false := by simp [k0]
  by_cases k1 : K = 1
  · subst k1
    obtain ⟨b', e2, hp⟩ : ∃ b' e2, tellM ms t o = (b', e2) := ⟨_, _, rfl⟩
    have HP := Lib.hid hp
    have r := R.out
    simp only [doM, if_neg k0, if_true, hp] at r
    cases r
    clear hp
    go_enter Try.func16, Try.ntmps16
    go_wp2_with fail
    refine (rf_tell t o H3.out HND.out HP.out).mono ?_
    rintro e w2 ⟨F2, rfl, m2, t2, f2⟩
    obtain ⟨k1, k2, hz⟩ := keepW HF.out t2
    obtain ⟨p0, p1, p2, p3, p4, p5, p6, p7, p8⟩ := k1.cells
    obtain ⟨q0, q1, q2, q3, q4, q5, q6, q7, q8⟩ := k2.cells
    have hz1 : w.heap.size + 1 < w2.heap.size := by omega
    have K1 := Lib.hid k1
    have M2 := Lib.hid m2
    have T2 := Lib.hid t2
    have F2' := Lib.hid f2
    clear m2 t2 f2 k1 k2
    go_wp2_with fail
    refine forgetX (fun W => BoxW W (w.heap.size + 1) (.int .i64 0) (.int .u8 0) (.int .u64 0) (.int .u64 0) (.string ⟨#[]⟩) (.bool b') (.slice none 0 0) (.slice none 0 0) ∧ Tch [w.heap.size + 1, w.heap.size + 1 + 1] w2 W) ⟨?_, ?_⟩ ?_
    · have hne : w.heap.size + 1 ≠ w.heap.size + 1 + 1 := by omega
      with_reducible exact BoxW.set8 (BoxW.off K1.out hne) _ _ _ _ _ _ _ _
    · repeat (first | with_reducible exact Tch.refl _ _ | with_reducible refine Tch.setCell ?_ _ (by simp) | with_reducible refine Tch.alloc ?_ _)
    rintro W3 ⟨hbx, t3⟩
    exact bodyPost_ret (results_w rfl rfl hbx) rfl (mm_fin (lv := .slice none 0 0) (sv := .slice none 0 0) (by simp [tvv, oz]) M2.out HF.out T2.out F2'.out (nil_ownM _ _).1 (nil_ownM _ _).2 t3)
  have n1 : (K == 1) = false := by simp [k1]
  by_cases k2 : K = 2
  · subst k2
    obtain ⟨o', b', hp⟩ : ∃ o' b', getM ms t = (o', b') := ⟨_, _, rfl⟩
    have HP := Lib.hid hp
    have r := R.out
    simp only [doM, if_neg k0, if_neg k1, if_true, hp] at r
    cases r
    clear hp
    go_enter Try.func16, Try.ntmps16
    go_wp2_with fail
    refine (rf_get t H3.out HP.out).mono ?_
    rintro e w2 ⟨F2, rfl, m2, t2, f2⟩
    obtain ⟨k1, k2, hz⟩ := keepW HF.out t2
    obtain ⟨p0, p1, p2, p3, p4, p5, p6, p7, p8⟩ := k1.cells
    obtain ⟨q0, q1, q2, q3, q4, q5, q6, q7, q8⟩ := k2.cells
    have hz1 : w.heap.size + 1 < w2.heap.size := by omega
    have K1 := Lib.hid k1
    have M2 := Lib.hid m2
    have T2 := Lib.hid t2
    have F2' := Lib.hid f2
    clear m2 t2 f2 k1 k2
    go_wp2_with fail
    refine forgetX (fun W => BoxW W (w.heap.size + 1) (.int .i64 0) (.int .u8 o'.k) (.int .u64 o'.a) (.int .u64 o'.b) (.string ⟨o'.c.toArray⟩) (.bool b') (.slice none 0 0) (.slice none 0 0) ∧ Tch [w.heap.size + 1, w.heap.size + 1 + 1] w2 W) ⟨?_, ?_⟩ ?_
    · have hne : w.heap.size + 1 ≠ w.heap.size + 1 + 1 := by omega
      with_reducible exact BoxW.set8 (BoxW.off (BoxW.off (BoxW.off (BoxW.off (BoxW.off K1.out hne) hne) hne) hne) hne) _ _ _ _ _ _ _ _
    · repeat (first | with_reducible exact Tch.refl _ _ | with_reducible refine Tch.setCell ?_ _ (by simp) | with_reducible refine Tch.alloc ?_ _)
    rintro W3 ⟨hbx, t3⟩
    exact bodyPost_ret (results_w rfl rfl hbx) rfl (mm_fin (lv := .slice none 0 0) (sv := .slice none 0 0) (by simp [tvv, oz]) M2.out HF.out T2.out F2'.out (nil_ownM _ _).1 (nil_ownM _ _).2 t3)
  have n2 : (K == 2) = false := by simp [k2]
  by_cases k3 : K = 3
  · subst k3
    obtain ⟨o', b', e2, hp⟩ : ∃ o' b' e2, settleM ms t = (o', b', e2) := ⟨_, _, _, rfl⟩
    have HP := Lib.hid hp
    have r := R.out
    simp only [doM, if_neg k0, if_neg k1, if_neg k2, if_true, hp] at r
    cases r
    clear hp
    go_enter Try.func16, Try.ntmps16
    go_wp2_with fail
    refine (rf_settle t H3.out HND.out HBB.out HP.out).mono ?_
    rintro e w2 ⟨F2, rfl, m2, t2, f2⟩
    obtain ⟨k1, k2, hz⟩ := keepW HF.out t2
    obtain ⟨p0, p1, p2, p3, p4, p5, p6, p7, p8⟩ := k1.cells
    obtain ⟨q0, q1, q2, q3, q4, q5, q6, q7, q8⟩ := k2.cells
    have hz1 : w.heap.size + 1 < w2.heap.size := by omega
    have K1 := Lib.hid k1
    have M2 := Lib.hid m2
    have T2 := Lib.hid t2
    have F2' := Lib.hid f2
    clear m2 t2 f2 k1 k2
    go_wp2_with fail
    refine forgetX (fun W => BoxW W (w.heap.size + 1) (.int .i64 0) (.int .u8 o'.k) (.int .u64 o'.a) (.int .u64 o'.b) (.string ⟨o'.c.toArray⟩) (.bool b') (.slice none 0 0) (.slice none 0 0) ∧ Tch [w.heap.size + 1, w.heap.size + 1 + 1] w2 W) ⟨?_, ?_⟩ ?_
    · have hne : w.heap.size + 1 ≠ w.heap.size + 1 + 1 := by omega
      with_reducible exact BoxW.set8 (BoxW.off (BoxW.off (BoxW.off (BoxW.off (BoxW.off K1.out hne) hne) hne) hne) hne) _ _ _ _ _ _ _ _
    · repeat (first | with_reducible exact Tch.refl _ _ | with_reducible refine Tch.setCell ?_ _ (by simp) | with_reducible refine Tch.alloc ?_ _)
    rintro W3 ⟨hbx, t3⟩
    exact bodyPost_ret (results_w rfl rfl hbx) rfl (mm_fin (lv := .slice none 0 0) (sv := .slice none 0 0) (by simp [tvv, oz]) M2.out HF.out T2.out F2'.out (nil_ownM _ _).1 (nil_ownM _ _).2 t3)
  have n3 : (K == 3) = false := by simp [k3]
  by_cases k4 : K = 4
  · subst k4
    obtain ⟨mf, st, hp⟩ : ∃ mf st, meetM th ms = (mf, st) := ⟨_, _, rfl⟩
    have HP := Lib.hid hp
    have r := R.out
    simp only [doM, if_neg k0, if_neg k1, if_neg k2, if_neg k3, if_true, hp] at r
    cases r
    clear hp
    go_enter Try.func16, Try.ntmps16
    go_wp2_with fail
    refine (rmeet_calls a F ms th A n c _ H3.out HND.out HBB.out HR.out HAA.out).mono ?_
    rintro e w2 ⟨v3, rfl, o3, m2, t2⟩
    rw [HP.out] at o3 m2
    simp only at o3 m2

    have M2 := Lib.hid m2
    have T2 := Lib.hid t2
    obtain ⟨A3, c3, rfl⟩ := OwnC.slice o3
    have O3 := Lib.hid o3
    have F2' := Lib.hid (show ∀ k ∈ F, k ∈ F ∨ (((w.alloc (.cells #[.int .i64 4, .string ⟨t.toArray⟩, .int .u8 o.k, .int .u64 o.a, .int .u64 o.b, .string ⟨o.c.toArray⟩, .slice A n c] 41)).alloc TZ).alloc TZ).heap.size ≤ k from fun k hk => .inl hk)
    obtain ⟨k1, k2, hz⟩ := keepW HF.out t2
    obtain ⟨p0, p1, p2, p3, p4, p5, p6, p7, p8⟩ := k1.cells
    obtain ⟨q0, q1, q2, q3, q4, q5, q6, q7, q8⟩ := k2.cells
    have hz1 : w.heap.size + 1 < w2.heap.size := by omega
    have K1 := Lib.hid k1
    clear m2 t2 k1 k2 o3
    go_wp2_with fail
    refine forgetX (fun W => BoxW W (w.heap.size + 1) (.int .i64 0) (.int .u8 0) (.int .u64 0) (.int .u64 0) (.string ⟨#[]⟩) (.bool false) (.slice A3 st.length c3) (.slice none 0 0) ∧ Tch [w.heap.size + 1, w.heap.size + 1 + 1] w2 W) ⟨?_, ?_⟩ ?_
    · have hne : w.heap.size + 1 ≠ w.heap.size + 1 + 1 := by omega
      with_reducible exact BoxW.set8 (BoxW.off K1.out hne) _ _ _ _ _ _ _ _
    · repeat (first | with_reducible exact Tch.refl _ _ | with_reducible refine Tch.setCell ?_ _ (by simp) | with_reducible refine Tch.alloc ?_ _)
    rintro W3 ⟨hbx, t3⟩
    exact bodyPost_ret (results_w rfl rfl hbx) rfl (mm_fin (lv := .slice A3 st.length c3) (sv := .slice none 0 0) (by simp [tvv, oz]) M2.out HF.out T2.out F2'.out (OwnC.base (OwnC.tch O3.out t3 (fun k hk hm2 => by have := (OwnC.lt O3.out k hk).1; simp at this hm2; omega)) (by simp; omega)) OwnC.nil_ t3)
  have n4 : (K == 4) = false := by simp [k4]
  by_cases k5 : K = 5
  · subst k5
    obtain ⟨gl, mf, hp⟩ : ∃ gl mf, keepM th ms = (gl, mf) := ⟨_, _, rfl⟩
    have HP := Lib.hid hp
    have r := R.out
    simp only [doM, if_neg k0, if_neg k1, if_neg k2, if_neg k3, if_neg k4, if_true, hp] at r
    cases r
    clear hp
    go_enter Try.func16, Try.ntmps16
    go_wp2_with fail
    refine (rkeep_calls a F ms th A n c _ H3.out HBB.out HR.out HP.out).mono ?_
    rintro e w2 ⟨v3, F2, rfl, o3, m2, t2, f2⟩
    skip

    have M2 := Lib.hid m2
    have T2 := Lib.hid t2
    obtain ⟨A3, c3, rfl⟩ := OwnC.slice o3
    have O3 := Lib.hid o3
    have F2' := Lib.hid f2
    obtain ⟨k1, k2, hz⟩ := keepW HF.out t2
    obtain ⟨p0, p1, p2, p3, p4, p5, p6, p7, p8⟩ := k1.cells
    obtain ⟨q0, q1, q2, q3, q4, q5, q6, q7, q8⟩ := k2.cells
    have hz1 : w.heap.size + 1 < w2.heap.size := by omega
    have K1 := Lib.hid k1
    clear m2 t2 k1 k2 o3
    go_wp2_with fail
    refine forgetX (fun W => BoxW W (w.heap.size + 1) (.int .i64 0) (.int .u8 0) (.int .u64 0) (.int .u64 0) (.string ⟨#[]⟩) (.bool false) (.slice none 0 0) (.slice A3 gl.length c3) ∧ Tch [w.heap.size + 1, w.heap.size + 1 + 1] w2 W) ⟨?_, ?_⟩ ?_
    · have hne : w.heap.size + 1 ≠ w.heap.size + 1 + 1 := by omega
      with_reducible exact BoxW.set8 (BoxW.off K1.out hne) _ _ _ _ _ _ _ _
    · repeat (first | with_reducible exact Tch.refl _ _ | with_reducible refine Tch.setCell ?_ _ (by simp) | with_reducible refine Tch.alloc ?_ _)
    rintro W3 ⟨hbx, t3⟩
    exact bodyPost_ret (results_w rfl rfl hbx) rfl (mm_fin (lv := .slice none 0 0) (sv := .slice A3 gl.length c3) (by simp [tvv, oz]) M2.out HF.out T2.out F2'.out OwnC.nil_ (OwnC.base (OwnC.tch O3.out t3 (fun k hk hm2 => by have := (OwnC.lt O3.out k hk).1; simp at this hm2; omega)) (by simp; omega)) t3)
  have n5 : (K == 5) = false := by simp [k5]
  have r := R.out
  simp only [doM, if_neg k0, if_neg k1, if_neg k2, if_neg k3, if_neg k4, if_neg k5] at r
  cases r
  obtain ⟨k1', k2', hz⟩ := keepW (F := F) (X := .cells #[.int .i64 K, .string ⟨t.toArray⟩, .int .u8 o.k, .int .u64 o.a, .int .u64 o.b, .string ⟨o.c.toArray⟩, .slice A n c] 41) HF.out (Tch.refl _ _)
  have K1 := Lib.hid k1'
  clear k1' k2' hz
  go_enter Try.func16, Try.ntmps16
  go_wp2_with fail
  refine forgetX (fun W => BoxW W (w.heap.size + 1) (.int .i64 0) (.int .u8 0) (.int .u64 0) (.int .u64 0) (.string ⟨#[]⟩) (.bool false) (.slice none 0 0) (.slice none 0 0) ∧ Tch [w.heap.size + 1, w.heap.size + 1 + 1] (((w.alloc (.cells #[.int .i64 K, .string ⟨t.toArray⟩, .int .u8 o.k, .int .u64 o.a, .int .u64 o.b, .string ⟨o.c.toArray⟩, .slice A n c] 41)).alloc TZ).alloc TZ) W) ⟨?_, ?_⟩ ?_
  · exact K1.out
  · exact Tch.refl _ _
  rintro W3 ⟨hbx, t3⟩
  exact bodyPost_ret (results_w rfl rfl hbx) rfl (mm_fin (lv := .slice none 0 0) (sv := .slice none 0 0) (by simp [tvv, oz]) H3.out HF.out (Tch.refl _ _) (fun k hk => .inl hk) OwnC.nil_ OwnC.nil_ t3)
end Go.Proofs.Ytgmoodcojpbbdaa

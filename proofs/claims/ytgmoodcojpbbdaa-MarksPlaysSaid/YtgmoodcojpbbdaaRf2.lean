import Derived.Test.YtgmoodcojpbbdaaRf
set_option linter.unusedVariables false
set_option linter.unusedSimpArgs false
namespace Go.Proofs.Ytgmoodcojpbbdaa
open Go.RowKit

theorem at_any (A : Option Addr) (n c : Nat) (th : Ms) (t : List UInt8) (z : Int) (w : World) (h : RdC 5 w A n c (mcs th)) (hz : whereT (th.map (·.1)) t = z) :
    Calls Try.prog 27 #[.slice A n c, .string ⟨t.toArray⟩] w fun e w' => e = .returned (.int .i64 z) ∧ w = w' := by
  subst hz
  exact at_calls A n c th t w h

set_option maxHeartbeats 400000 in
theorem rget_nil (t : List UInt8) (w : World) :
    Calls Try.prog 32 #[.pointer none, str t] w fun e w' => e = .returned (.tuple #[ov oz, .bool false]) ∧ Below w.heap.size w w' := by
  unfold str
  go_enter Try.func32, Try.ntmps32
  go_wp2
  exact bodyPost_ret (results_out rfl rfl rfl (OutAt.new w oz _)) rfl ⟨rfl, below_alloc w _⟩

set_option maxHeartbeats 800000 in
theorem rget_calls (a : Nat) (F : List Nat) (ms : Ms) (t : List UInt8) (w : World) (h : Rf w a F ms) :
    Calls Try.prog 32 #[.pointer (some ⟨a, 0, none⟩), str t] w fun e w' => e = .returned (.tuple #[ov (getM ms t).1, .bool (getM ms t).2]) ∧ Below w.heap.size w w' := by
  obtain ⟨A, c, h1, h2, h3, h4, h5, h6⟩ := h.row
  have HR := Lib.hid h3
  have hlc := h3.2.1
  have hmx := h3.2.2.1
  have hlt := heap_lt h1
  obtain ⟨n, hn⟩ : ∃ n, ms.length = n := ⟨_, rfl⟩
  have HN := Lib.hid hn
  rw [hn] at h4 HR hlc
  unfold str
  rcases where_mat ms t with ⟨hm, hw⟩ | ⟨k, o, hm, hw, hk⟩
  · have HG := Lib.hid (show getM ms t = (oz, false) by simp [getM, hm])
    have HW := Lib.hid hw
    clear h h1 h2 h3 h5 h6 hn hm hw
    go_enter Try.func32, Try.ntmps32
    go_wp2_with fail
    refine (at_any A n c ms t (-1) _ (HR.out.below (below_alloc w _)) HW.out).mono ?_
    rintro e w1 ⟨rfl, rfl⟩
    go_wp2_with fail
    exact bodyPost_ret (results_out rfl rfl rfl (OutAt.new w oz _)) rfl ⟨by rw [HG.out]; rfl, below_alloc w _⟩
  · have HG := Lib.hid (show getM ms t = (o, true) by simp [getM, hm])
    obtain ⟨hkl, hke⟩ := List.getElem?_eq_some_iff.1 hk
    obtain ⟨b0, o0, e, g0, g1, g2, g3, g4⟩ := mark_at HR.out k hkl
    subst e
    rw [hke] at g0 g1 g2 g3 g4
    simp only at g0 g1 g2 g3 g4
    have hkn : (k : Int) < n := by rw [← hn]; omega
    have HW := Lib.hid hw
    have e1 : decide ((k : Int) < 0) = false := by simp
    have hb0 : b0 < w.heap.size := World.block_lt_of_cell? _ _ g0
    clear h h1 h2 h3 h5 h6 hn hm hw hke hk hkl g0
    go_enter Try.func32, Try.ntmps32
    go_wp2_with fail
    refine (at_any _ n c ms t k _ (HR.out.below (below_alloc w _)) HW.out).mono ?_
    rintro e w1 ⟨rfl, rfl⟩
    go_wp2_with fail
    go_region_held3 (fun W' => W'.cell? ⟨a, 0, none⟩ = some (.slice (some ⟨b0, o0, none⟩) n c) ∧ W'.cell? ⟨b0, o0 + k * 5 + 1, none⟩ = some (.int .u8 o.k) ∧ W'.cell? ⟨b0, o0 + k * 5 + 1 + 1, none⟩ = some (.int .u64 o.a) ∧ W'.cell? ⟨b0, o0 + k * 5 + 1 + 2, none⟩ = some (.int .u64 o.b) ∧ W'.cell? ⟨b0, o0 + k * 5 + 1 + 3, none⟩ = some (.string ⟨o.c.toArray⟩)) (go_keep)
      (first
        | (go_at_call 27; refine (at_any _ n c ms t k _ ((HR.out.below (below_alloc w _)).below (Below.refl _ _).drew) HW.out).mono ?_; rintro e w6 ⟨rfl, rfl⟩))
    go_wp2_with fail
    exact bodyPost_ret (results_out rfl rfl rfl ((OutAt.new w o _).below (below_drew _))) rfl ⟨by rw [HG.out]; rfl, (below_alloc w _).drew⟩

set_option maxHeartbeats 400000 in
theorem radd_nil (t : List UInt8) (w : World) :
    Calls Try.prog 30 #[.pointer none, str t] w fun e w' => e = .returned (.int .i64 2) ∧ w = w' := by
  unfold str
  go_enter Try.func30, Try.ntmps30
  go_wp2
  go_ret
  exact ⟨rfl, rfl⟩

def AddPost (R : World → Nat → List Nat → Ms → Prop) (ms : Ms) (a : Nat) (F : List Nat) (t : List UInt8) (w : World) (e : Ending) (w' : World) : Prop :=
  ∃ F', e = .returned (.int .i64 (addM ms t).1) ∧ R w' a F' (addM ms t).2 ∧ Tch F w w' ∧ ∀ k ∈ F', k ∈ F ∨ w.heap.size ≤ k

set_option maxHeartbeats 1000000 in
theorem radd_calls (a : Nat) (F : List Nat) (ms : Ms) (t : List UInt8) (w : World) (h : Rf w a F ms) :
    Calls Try.prog 30 #[.pointer (some ⟨a, 0, none⟩), str t] w (AddPost Rf ms a F t w) := by
  have HM := Lib.hid h
  obtain ⟨A, c, h1, h2, h3, h4, h5, h6⟩ := h.row
  have HR := Lib.hid h3
  have hlc := h3.2.1
  have hmx := h3.2.2.1
  have hlt := heap_lt h1
  have H1 := Lib.hid h1
  have H2 := Lib.hid h2
  have H6 := Lib.hid h6
  obtain ⟨n, hn⟩ : ∃ n, ms.length = n := ⟨_, rfl⟩
  have HN := Lib.hid hn
  rw [hn] at h4 HR hlc H1 H2 H6
  unfold str
  clear h h1 h2 h3 h6
  by_cases ht : t.length < 1 ∨ 32 < t.length
  · have HA := Lib.hid (show addM ms t = (1, ms) by unfold addM; rw [if_pos ht])
    by_cases ht1 : t.length < 1
    · have e1 : decide ((t.length : Int) < 1) = true := decide_eq_true (by omega)
      clear ht hn
      go_enter Try.func30, Try.ntmps30
      go_wp2
      go_ret
      exact ⟨F, by rw [HA.out]; rfl, by rw [HA.out]; exact HM.out, Tch.refl _ _, fun k hk => .inl hk⟩
    · have ht2 : 32 < t.length := by omega
      clear ht hn
      go_enter Try.func30, Try.ntmps30
      go_wp2
      go_ret
      exact ⟨F, by rw [HA.out]; rfl, by rw [HA.out]; exact HM.out, Tch.refl _ _, fun k hk => .inl hk⟩
  · have t1 : ¬ t.length < 1 := by omega
    have t2 : ¬ 32 < t.length := by omega
    rcases where_mat ms t with ⟨hm, hw⟩ | ⟨k, o, hm, hw, hk⟩
    · have HW := Lib.hid hw
      have e0 : t.isEmpty = false := by cases t with | nil => simp at t1 | cons _ _ => rfl
      by_cases hfull : 32 ≤ n
      · have HA := Lib.hid (show addM ms t = (4, ms) by simp [addM, t1, t2, hm, hn, hfull])
        clear ht hn hm hw
        go_enter Try.func30, Try.ntmps30
        go_wp2_with fail
        refine (at_any A n c ms t (-1) _ HR.out HW.out).mono ?_
        rintro e w1 ⟨rfl, rfl⟩
        go_wp2
        go_ret
        exact ⟨F, by rw [HA.out]; rfl, by rw [HA.out]; exact HM.out, Tch.refl _ _, fun k hk => .inl hk⟩
      · have HA := Lib.hid (show addM ms t = (0, ms ++ [(t, oz)]) by simp [addM, t1, t2, hm, hn, hfull])
        obtain ⟨i0, hi, hz0, hz1, hz2⟩ := info_parts Try.info_mark
        clear ht hn hm hw
        go_enter Try.func30, Try.ntmps30
        go_wp2_with fail
        refine (at_any A n c ms t (-1) _ HR.out HW.out).mono ?_
        rintro e w1 ⟨rfl, rfl⟩
        go_wp2_with (at_builtin; refine wpList_appC _ rfl _ _ _ rfl 0 i0 _ 56 Try.underlying39 hi hz0 hz1 hz2 rfl (by decide) (fun _ _ => trivial) (.slice A n c) n (mcs ms) rfl (H2.out.alloc _) (some ⟨w.heap.size, 0, none⟩) 1 1 (mc (t, oz)) rfl ?rd ?hb ?h63 ?hbase ?_)
        case rd => exact rdc_box (mc (t, oz)) 1 5 rfl (mc_one _) (by decide)
        case hb => omega
        case h63 => omega
        case hbase => omega
        intro v2 w2 o2 g2 _ q2
        obtain ⟨A2, c2, rfl⟩ := o2.slice
        have hH : w2.heap[a]? = some (.cells #[.slice A n c] 67 (0, 0)) := by
          rw [g2.block a (by simp; omega) (fun e => (H6.out a e.symm).2 rfl), heap_alloc_old _ _ hlt]
          exact H1.out
        have hTW : Tch F w w2 := ((Tch.refl F w).alloc _).grown g2 (fun k hk => .inl (H6.out k hk).1)
        have HFIN := Lib.hid (rf_close (ms' := ms ++ [(t, oz)]) hH (by
          rw [List.length_append, HN.out, mcs_snoc]
          exact o2) HM.out.mem (fun g hg => by
          rcases q2 with q | q
          · exact .inl (H6.out g (by rw [← q]; exact hg)).1
          · right
            rw [q] at hg
            simp at hg
            omega) hTW HM.out.lts)
        have k1 := cell_of_heap (l := [.slice A n c]) hH 0 _ rfl
        have k2 := froz_of_heap hH 0
        clear o2 g2 q2 hH hTW
        go_wp2_with fail
        go_ret
        obtain ⟨F', f1, f2, f3⟩ := HFIN.out
        exact ⟨F', by rw [HA.out]; rfl, by rw [HA.out]; exact f1, f2, f3⟩
    · have HA := Lib.hid (show addM ms t = (8, ms) by simp [addM, t1, t2, hm])
      have HW := Lib.hid hw
      have e0 : t.isEmpty = false := by cases t with | nil => simp at t1 | cons _ _ => rfl
      have e1 : decide ((0 : Int) ≤ (k : Int)) = true := by simp
      clear ht hn hm hw hk
      go_enter Try.func30, Try.ntmps30
      go_wp2_with fail
      refine (at_any A n c ms t k _ HR.out HW.out).mono ?_
      rintro e w1 ⟨rfl, rfl⟩
      go_wp2
      go_ret
      exact ⟨F, by rw [HA.out]; rfl, by rw [HA.out]; exact HM.out, Tch.refl _ _, fun k hk => .inl hk⟩
end Go.Proofs.Ytgmoodcojpbbdaa

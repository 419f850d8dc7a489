import Derived.Test.YtgmoodcojpbbdaaBothLaw
import Derived.Test.YtgmoodcojpbbdaaOpenN
import Derived.StillTailTactics
set_option linter.unusedVariables false
set_option linter.unusedSimpArgs false
namespace Go.Proofs.Ytgmoodcojpbbdaa
open Go.RowKit

/-- Both marks, the steps, and what the receiver had. -/
structure Bo (w W : World) (a b : Nat) (F G : List Nat) (S R : Ms) (A : Option Addr) (c : Nat) (st : List St) (hm : Nat) (D : List (List UInt8 × Value)) : Prop where
  m : MkF w W a F S
  r : MkF w W b G R
  dis : ∀ q ∈ F, q ∉ G
  st : RdC 6 W A st.length c (scs st)
  h : MapS str W hm D
  sa : ∀ ad, A = some ad → ad.block ∉ F ∧ ad.block ∉ G ∧ ad.block < W.heap.size
  ha : hm ∉ F ∧ hm ∉ G
theorem MkF.off {w0 w w' : World} {a : Nat} {F Z : List Nat} {ms : Ms} (h : MkF w0 w a F ms) (t : Tch Z w w') (hz : ∀ k ∈ Z, k ∉ F ∧ w0.heap.size ≤ k) : MkF w0 w' a F ms :=
  ⟨h.old.trans (t.below h.old.size (fun k hk => (hz k hk).2)), h.is.tch t (fun k hk h => (hz k h).1 hk), h.hi⟩
section
variable {w W W' : World} {a b : Nat} {F F' G G' : List Nat} {S S' R R' : Ms} {A : Option Addr} {c : Nat} {st : List St} {hm : Nat} {D : List (List UInt8 × Value)}
theorem Bo.below (p : Bo w W a b F G S R A c st hm D) (hb : Below W.heap.size W W') : Bo w W' a b F G S R A c st hm D :=
  ⟨p.m.below hb, p.r.below hb, p.dis, p.st.below hb, p.h.tch (Tch.of_below [] hb) (by simp), fun ad e => ⟨(p.sa ad e).1, (p.sa ad e).2.1, Nat.lt_of_lt_of_le (p.sa ad e).2.2 hb.size⟩, p.ha⟩
theorem Bo.left (p : Bo w W a b F G S R A c st hm D) (m' : MkF w W' a F' S') (t : Tch F W W') (f : ∀ k ∈ F', k ∈ F ∨ W.heap.size ≤ k) : Bo w W' a b F' G S' R A c st hm D := by
  have hl := p.h.lt
  refine ⟨m', p.r.off t (fun k hk => ⟨p.dis k hk, p.m.hi k hk⟩), fun q hq hg => ?_, p.st.tch t (fun ad e => (p.sa ad e).1), p.h.tch t p.ha.1, fun ad e => ⟨fun h => ?_, (p.sa ad e).2.1, Nat.lt_of_lt_of_le (p.sa ad e).2.2 t.size⟩, fun h => ?_, p.ha.2⟩
  · rcases f q hq with h | h
    · exact p.dis q h hg
    · have := p.r.is.lts q hg; omega
  · rcases f _ h with h | h
    · exact (p.sa ad e).1 h
    · have := (p.sa ad e).2.2; omega
  · rcases f _ h with h | h
    · exact p.ha.1 h
    · omega
theorem Bo.right (p : Bo w W a b F G S R A c st hm D) (m' : MkF w W' b G' R') (t : Tch G W W') (f : ∀ k ∈ G', k ∈ G ∨ W.heap.size ≤ k) : Bo w W' a b F G' S R' A c st hm D := by
  have hl := p.h.lt
  refine ⟨p.m.off t (fun k hk => ⟨fun h => p.dis k h hk, p.r.hi k hk⟩), m', fun q hq hg => ?_, p.st.tch t (fun ad e => (p.sa ad e).2.1), p.h.tch t p.ha.2, fun ad e => ⟨(p.sa ad e).1, fun h => ?_, Nat.lt_of_lt_of_le (p.sa ad e).2.2 t.size⟩, p.ha.1, fun h => ?_⟩
  · rcases f q hg with h | h
    · exact p.dis q hq h
    · have := p.m.is.lts q hq; omega
  · rcases f _ h with h | h
    · exact (p.sa ad e).2.1 h
    · have := (p.sa ad e).2.2; omega
  · rcases f _ h with h | h
    · exact p.ha.2 h
    · omega
end
/-- A step's block. -/
def StB (w : World) (b : Nat) (s : St) : Prop := w.heap[b]? = some (.cells #[.string ⟨s.1.toArray⟩, .int .i64 s.2.1, .int .u8 s.2.2.k, .int .u64 s.2.2.a, .int .u64 s.2.2.b, .string ⟨s.2.2.c.toArray⟩] 55 (0, 0))

theorem StB.cells {w : World} {b : Nat} {s : St} (h : StB w b s) : (w.cell? ⟨b, 0, none⟩ = some (.string ⟨s.1.toArray⟩) ∧ w.cell? ⟨b, 1, none⟩ = some (.int .i64 s.2.1) ∧ w.cell? ⟨b, 2, none⟩ = some (.int .u8 s.2.2.k) ∧ w.cell? ⟨b, 3, none⟩ = some (.int .u64 s.2.2.a) ∧ w.cell? ⟨b, 4, none⟩ = some (.int .u64 s.2.2.b) ∧ w.cell? ⟨b, 5, none⟩ = some (.string ⟨s.2.2.c.toArray⟩)) := by
  have hc := fun j u hj => cell_of_heap (l := [.string ⟨s.1.toArray⟩, .int .i64 s.2.1, .int .u8 s.2.2.k, .int .u64 s.2.2.a, .int .u64 s.2.2.b, .string ⟨s.2.2.c.toArray⟩]) h j u hj
  exact ⟨hc 0 _ rfl, hc 1 _ rfl, hc 2 _ rfl, hc 3 _ rfl, hc 4 _ rfl, hc 5 _ rfl⟩
theorem StB.tch {w w' : World} {F : List Nat} {b : Nat} {s : St} (h : StB w b s) (ht : Tch F w w') (hb : b ∉ F) : StB w' b s := (ht.block b (heap_lt h) hb).trans h
theorem out_off {F F' : List Nat} {X z : Nat} (h : X ∉ F) (hf : ∀ k ∈ F', k ∈ F ∨ z ≤ k) (hz : X < z) : X ∉ F' := fun hm => by
  rcases hf X hm with h' | h'
  · exact h h'
  · omega
theorem run_zero_int (w : World) : (zeroValue 3).run Try.prog w = .ok (.int .i64 0) w := by kernel_rfl
set_option maxRecDepth 100000 in
set_option maxHeartbeats 8000000 in
theorem mboth_calls (A B : Option Addr) (n1 n2 c d : Nat) (own th : Ms) (w : World) (ho : RdC 5 w A n1 c (mcs own)) (ht : RdC 5 w B n2 d (mcs th)) :
    Calls Try.prog 9 #[.slice A n1 c, .slice B n2 d] w fun e w' => e = .returned (.bool true) ∧ Below w.heap.size w w' := by
  have HO := Lib.hid ho
  have HT := Lib.hid ht
  have a1 := ho.2.1
  have a2 := ho.2.2.1
  have a3 := ht.2.1
  have a4 := ht.2.2.1
  clear ho ht
  have HB := Lib.hid (show 20 < n1 ∨ (¬ 20 < n1 ∧ 20 < n2) ∨ (n1 ≤ 20 ∧ n2 ≤ 20) by omega)
  rcases HB.out with hbig | ⟨hb1, hbig⟩ | ⟨hn1, hn2⟩
  · go_enter Try.func9, Try.ntmps9
    go_wp2_with fail
    refine (works_calls _).mono ?_
    rintro e w2 ⟨rfl, b2⟩
    have B2 := Lib.hid b2
    clear b2
    go_wp2_with fail
    go_ret
    exact ⟨rfl, B2.out⟩
  · have hb1' : decide ((20 : Int) < n1) = false := decide_eq_false (by omega)
    go_enter Try.func9, Try.ntmps9
    go_wp2_with fail
    refine (works_calls _).mono ?_
    rintro e w2 ⟨rfl, b2⟩
    have B2 := Lib.hid b2
    clear b2
    go_wp2_with fail
    go_ret
    exact ⟨rfl, B2.out⟩
  · have hmm := @run_makeMap Try.prog
    have hb1' : decide ((20 : Int) < n1) = false := decide_eq_false (by omega)
    have hb2' : decide ((20 : Int) < n2) = false := decide_eq_false (by omega)
    clear HB
    go_enter Try.func9, Try.ntmps9
    go_wp2_with fail
    refine (mf_new w w (Below.refl _ _)).mono ?_
    rintro e w1 ⟨rfl, m1, -⟩
    have M1 := Lib.hid m1
    obtain ⟨a, ha⟩ : ∃ a, w.heap.size + 1 = a := ⟨_, rfl⟩
    rw [ha] at M1 ⊢
    clear m1 ha hb1' hb2'
    go_wp2_with fail
    refine (mf_new w w1 M1.out.old).mono ?_
    rintro e w2 ⟨rfl, r2, b2⟩
    have M2 := Lib.hid (M1.out.below b2)
    have R2 := Lib.hid r2
    have D2 := Lib.hid (show ∀ q ∈ [w.heap.size, a], q ∉ [w1.heap.size, w1.heap.size + 1] from fun q hq h => by
      have := M1.out.is.lts q hq
      simp at h
      omega)
    obtain ⟨b, hb⟩ : ∃ b, w1.heap.size + 1 = b := ⟨_, rfl⟩
    rw [hb] at R2 D2 ⊢
    clear r2 b2 hb M1
    go_wp2_with fail
    refine (fill_calls a _ [] A n1 c own w w2 M2.out GoodM.nil HO.out (by omega)).mono ?_
    rintro e w3 ⟨F3, S0, rfl, m3, g3, t3, f3⟩
    have M3 := Lib.hid m3
    have GS := Lib.hid (show GoodM 20 S0 from ⟨by have := g3.few; omega, by decide, g3.tags, g3.fins⟩)
    have R3 := Lib.hid (R2.out.off t3 (fun k hk => ⟨D2.out k hk, M2.out.hi k hk⟩))
    have D3 := Lib.hid (show ∀ q ∈ F3, q ∉ [w1.heap.size, b] from fun q hq h => by
      rcases f3 q hq with h' | h'
      · exact D2.out q h' h
      · have := R2.out.is.lts q h; omega)
    clear m3 g3 t3 f3 M2 R2 D2
    go_wp2_with fail
    refine (fill_calls b _ [] B n2 d th w w3 R3.out GoodM.nil HT.out (by omega)).mono ?_
    rintro e w4 ⟨G4, R0, rfl, r4, g4, t4, f4⟩
    have R4 := Lib.hid r4
    have GR := Lib.hid (show GoodM 20 R0 from ⟨by have := g4.few; omega, by decide, g4.tags, g4.fins⟩)
    have M4 := Lib.hid (M3.out.off t4 (fun k hk => ⟨fun h => D3.out k h hk, R3.out.hi k hk⟩))
    have D4 := Lib.hid (show ∀ q ∈ F3, q ∉ G4 from fun q hq h => by
      rcases f4 q h with h' | h'
      · exact D3.out q hq h'
      · have := M3.out.is.lts q hq; omega)
    clear r4 g4 t4 f4 M3 R3 D3
    go_wp2_with fail
    have HSN := Lib.hid M4.out.is.nodup
    have HRN := Lib.hid R4.out.is.nodup
    obtain ⟨hm, hhm⟩ : ∃ hm, w4.heap.size = hm := ⟨_, rfl⟩
    have HHM := Lib.hid (show hm ∉ F3 ∧ hm ∉ G4 ∧ w.heap.size ≤ hm by
      rw [← hhm]
      exact ⟨fun h => Nat.lt_irrefl _ (M4.out.is.lts _ h), fun h => Nat.lt_irrefl _ (R4.out.is.lts _ h), M4.out.old.size⟩)
    have HM0 := Lib.hid (show MapS str (w4.alloc (.map #[] 0)) hm [] from hhm ▸ MapS.made w4)
    refine (mf_list (R4.out.below (below_alloc w4 _)) (by have := GR.out.few; omega)).mono ?_
    rintro e w5 ⟨v5, rfl, o5, r5, b5⟩
    obtain ⟨A5, c5, rfl, rd5⟩ := o5.rd
    have M5 := Lib.hid ((M4.out.below (below_alloc w4 _)).below b5)
    have R5 := Lib.hid r5
    have HM5 := Lib.hid (HM0.out.tch (Tch.of_below [] b5) (by simp))
    have AB5 := Lib.hid (show ∀ ad, A5 = some ad → ad.block ∉ [hm] from fun ad had => by have := (o5.lt ad.block (by rw [had]; rfl)).1; simp at this ⊢; omega)
    obtain ⟨nr, hnr⟩ : ∃ nr, R0.length = nr := ⟨_, rfl⟩
    have HNR := Lib.hid hnr
    have hnr20 : nr ≤ 20 := by rw [← hnr]; exact GR.out.few
    have hc51 := rd5.2.1
    have hc52 := rd5.2.2.1
    rw [hnr] at rd5 hc51 ⊢
    rw [hhm]
    have RD5 := Lib.hid rd5
    clear o5 r5 b5 rd5 hnr hhm M4 R4 HM0
    go_wp2_with fail
    go_loopw [9] (fun u wr => ∃ (j : Nat) (D : List (List UInt8 × Value)), j ≤ nr ∧ u = .int .i64 j ∧ MapS str wr hm D ∧ Hid (∀ t, mat R0 t = none → luk D t = none) ∧ Tch [hm] w5 wr) (fun u _ => nr - (intOf u).toNat)
    case atStart => exact ⟨0, [], by omega, rfl, HM5.out, Lib.hid (fun _ _ => rfl), Tch.refl _ _⟩
    case round =>
      obtain ⟨j, D, hj, rfl, hmp, HD, htj⟩ := hrel
      have MP := Lib.hid hmp
      have TJ := Lib.hid htj
      clear hmp htj
      by_cases hjn : j < nr
      · have hjn' : (j : Int) < nr := by omega
        have hjl : j < R0.length := by rw [HNR.out]; exact hjn
        obtain ⟨b3, o3, e, x0, -, -, -, -⟩ := mark_at (RD5.out.tch TJ.out AB5.out) j hjl
        subst e
        have HT := Lib.hid (show mat R0 R0[j].1 = some R0[j].2 from mat_of_mem R5.out.is.nodup (List.getElem_mem hjl))
        obtain ⟨p, hp⟩ : ∃ p, R0[j] = p := ⟨_, rfl⟩
        rw [hp] at x0 HT
        clear hp hjl
        go_wp2_with (at_mapUpdate; refine wpList_mput _ rfl _ _ _ rfl Try.underlying63 keyStr hm D rfl MP.out p.1 rfl (.int .i64 1) rfl ?_)
        intro w6 hm6 ht6
        have MP6 := Lib.hid hm6
        have TJ6 := Lib.hid (TJ.out.trans_ ht6)
        clear hm6 ht6
        go_wp2_with fail
        exact ⟨⟨j + 1, _, by omega, by go_num, MP6.out, Lib.hid (fun t ht => by
          rw [luk_put, if_neg (fun e => by rw [e, HT.out] at ht; cases ht)]
          exact HD.out t ht), TJ6.out⟩, by simp [intOf]; omega⟩
      · obtain rfl : j = nr := by omega
        have M6 := Lib.hid (M5.out.off TJ.out (fun k hk => by simp at hk; rw [hk]; exact ⟨HHM.out.1, HHM.out.2.2⟩))
        have R6 := Lib.hid (R5.out.off TJ.out (fun k hk => by simp at hk; rw [hk]; exact ⟨HHM.out.2.1, HHM.out.2.2⟩))
        clear M5 R5 TJ HM5 AB5 RD5
        obtain ⟨wa, rfl⟩ : ∃ wa : World, wa = wr := ⟨_, rfl⟩
        go_wp2_with fail
        refine (mf_list M6.out (by have := GS.out.few; omega)).mono ?_
        rintro e w7 ⟨v7, rfl, o7, m7, b7⟩
        obtain ⟨A7, c7, rfl, rd7⟩ := o7.rd
        have M7 := Lib.hid m7
        have R7 := Lib.hid (R6.out.below b7)
        have MP7 := Lib.hid (MP.out.tch (Tch.of_below [] b7) (by simp))
        have RD7 := Lib.hid rd7
        have AB7 := Lib.hid (show ∀ ad, A7 = some ad → ad.block ∉ F3 ∧ ad.block ∉ G4 from fun ad had => by
          have := (o7.lt ad.block (by rw [had]; rfl)).1
          exact ⟨fun h => by have := M6.out.is.lts _ h; omega, fun h => by have := R6.out.is.lts _ h; omega⟩)
        clear o7 m7 b7 rd7 M6 R6 MP
        go_wp2_with fail
        refine (mf_list R7.out (by have := GR.out.few; omega)).mono ?_
        rintro e w8 ⟨v8, rfl, o8, r8, b8⟩
        obtain ⟨A8, c8, rfl, rd8⟩ := o8.rd
        have M8 := Lib.hid (M7.out.below b8)
        have R8 := Lib.hid r8
        have MP8 := Lib.hid (MP7.out.tch (Tch.of_below [] b8) (by simp))
        have RD7' := Lib.hid (RD7.out.below b8)
        have RD8 := Lib.hid rd8
        have AB8 := Lib.hid (show ∀ ad, A8 = some ad → ad.block ∉ F3 from fun ad had h => by
          have h1 := (o8.lt ad.block (by rw [had]; rfl)).1
          have := M7.out.is.lts _ h
          omega)
        clear o8 r8 b8 rd8 M7 R7 MP7 RD7
        go_wp2_with fail
        refine (mf_meet A8 _ c8 M8.out (by have := GS.out.few; omega) RD8.out AB8.out (ms' := (meetM R0 S0).1) (st := (meetM R0 S0).2) rfl).mono ?_
        rintro e w9 ⟨v9, rfl, o9, m9, t9⟩
        obtain ⟨A9, c9, rfl, rd9⟩ := o9.rd
        have M9 := Lib.hid m9
        have R9 := Lib.hid (R8.out.off t9 (fun k hk => ⟨D4.out k hk, M8.out.hi k hk⟩))
        have MP9 := Lib.hid (MP8.out.tch t9 HHM.out.1)
        have RD7b := Lib.hid (RD7'.out.tch t9 (fun ad e => (AB7.out ad e).1))
        have RD9 := Lib.hid rd9
        have AB9 := Lib.hid (show ∀ ad, A9 = some ad → ad.block ∉ F3 ∧ ad.block ∉ G4 ∧ ad.block < w9.heap.size from fun ad had => by
          have h1 := o9.lt ad.block (by rw [had]; rfl)
          exact ⟨fun h => by have := M8.out.is.lts _ h; omega, fun h => by have := R8.out.is.lts _ h; omega, h1.2⟩)
        clear o9 m9 t9 rd9 M8 R8 MP8 RD8 AB8 RD7'
        go_wp2_with fail
        refine (mf_keep A7 _ c7 R9.out (by have := GR.out.few; omega) RD7b.out (fun ad e => (AB7.out ad e).2) (gl := (keepM S0 R0).1) (ms' := (keepM S0 R0).2) rfl).mono ?_
        rintro e w10 ⟨v10, G10, rfl, -, m10, t10, f10, -⟩
        have BO := Lib.hid (Bo.right (F := F3) (A := A9) (c := c9) (st := (meetM R0 S0).2) (hm := hm) (D := D) ⟨M9.out, R9.out, D4.out, RD9.out, MP9.out, AB9.out, HHM.out.1, HHM.out.2.1⟩ m10 t10 f10)
        have BI := Lib.hid (BInv.start HSN.out HRN.out)
        have HS20 := GS.out.few
        have hlen : (meetM R0 S0).2.length = S0.length := by simp [meetM]
        have HSTK := Lib.hid (show ∀ k (hk : k < S0.length) (hk2 : k < (meetM R0 S0).2.length), (meetM R0 S0).2[k] = (stepM R0 S0[k]).2 from fun k hk hk2 => by simp [meetM])
        obtain ⟨st, hst⟩ : ∃ st, (meetM R0 S0).2 = st := ⟨_, rfl⟩
        rw [hst] at BO hlen HSTK ⊢
        rw [hlen]
        have HLEN := Lib.hid hlen
        obtain ⟨N, hN⟩ : ∃ N, S0.length = N := ⟨_, rfl⟩
        have HN := Lib.hid hN
        rw [hN] at HS20
        have hst9 := BO.out.st.2.1
        have hst8 := BO.out.st.2.2.1
        rw [hlen, hN] at hst9
        rw [hN]
        clear m10 t10 f10 M9 R9 MP9 RD7b RD9 AB9 AB7 hlen hst hN
        go_wp2_with fail
        go_loopw [12, 13, 14, 15, 16, 17, 18, 19, 20, 21, 22, 23] (fun u _ _ _ _ _ _ _ _ _ _ _ wr => ∃ (k : Nat) (F G : List Nat) (S R : Ms), k ≤ N ∧ u = .int .i64 k ∧ Bo w wr a b F G S R A9 c9 st hm D ∧ Hid (BInv S0 R0 k S R)) (fun u _ _ _ _ _ _ _ _ _ _ _ _ => N - (intOf u).toNat)
        case atStart => exact ⟨0, F3, G10, _, _, by omega, rfl, BO.out, BI⟩
        case round =>
          obtain ⟨k, F, G, S, R, hk, rfl, hbo, HI⟩ := hrel
          have P := Lib.hid hbo
          clear hbo
          obtain ⟨wb, rfl⟩ : ∃ wb : World, wb = wr := ⟨_, rfl⟩
          by_cases hkN : k < N
          · have hkN' : (k : Int) < N := by omega
            have hkl : k < S0.length := by rw [HN.out]; exact hkN
            obtain ⟨b3, o3, e, x0, x1, x2, x3, x4, x5⟩ := step_at P.out.st k (by rw [HLEN.out]; exact hkl)
            subst e
            obtain ⟨ow, kd, so, hse, hcase⟩ := both_step HSN.out GS.out HI.out hkl
            have hstk := HSTK.out k hkl (by rw [HLEN.out]; exact hkl)
            rw [hse] at hstk
            simp only at hstk
            rw [hstk] at x0 x1 x2 x3 x4 x5
            obtain ⟨t, hte⟩ : ∃ t, S0[k].1 = t := ⟨_, rfl⟩
            rw [hte] at hcase x0 x1 x2 x3 x4 x5
            have HC := Lib.hid hcase
            clear hcase hse hstk hte
            simp only at x0 x1 x2 x3 x4 x5
            go_upto_region 20 with fail
            obtain ⟨X, hX⟩ : ∃ X, wb.heap.size = X := ⟨_, rfl⟩
            rw [hX]
            refine forget (fun W => Bo w W a b F G S R (some ⟨b3, o3, none⟩) c9 st hm D ∧ StB W X (t, kd, so) ∧ Hid (X ∉ F ∧ X ∉ G)) ⟨P.out.below (below_alloc wb _), ?_, Lib.hid ⟨fun h => by have := P.out.m.is.lts _ h; omega, fun h => by have := P.out.r.is.lts _ h; omega⟩⟩ ?_
            · rw [← hX]
              exact heap_alloc_new wb _
            clear x0 x1 x2 x3 x4 x5 P hX
            rintro W ⟨p, hx, HXF⟩
            have P := Lib.hid p
            have HX := Lib.hid hx
            obtain ⟨y0, y1, y2, y3, y4, y5⟩ := hx.cells
            have hXW : X < W.heap.size := heap_lt hx
            clear p hx
            simp only at y0 y1 y2 y3 y4 y5
            rcases HC.out with ⟨rfl, hr0, hadd, hbi⟩ | ⟨rfl, hget, hbi⟩ | ⟨rfl, hset, hset2, hbi⟩ | ⟨rfl, hset, hget, hbi⟩
            · have HBI := Lib.hid hbi
              have HADD := Lib.hid hadd
              have hl := P.out.h.look Try.underlying63 keyStr t _ (run_zero_int _) false
              rw [HD.out t hr0] at hl
              simp only [Option.getD_none, Bool.false_eq_true, if_false] at hl
              unfold str at hl
              clear hr0 hadd hbi
              go_wp2_with fail
              refine (mf_add t P.out.r HADD.out).mono ?_
              rintro e w11 ⟨G11, rfl, r11, t11, f11⟩
              have P11 := Lib.hid (P.out.right r11 t11 f11)
              clear r11 t11 f11 hl y0 y1 y2 y3 y4 y5
              go_wp2_with fail
              exact ⟨⟨k + 1, F, G11, _, _, by omega, by go_num, P11.out, HBI⟩, by simp [intOf]; omega⟩
            · have HBI := Lib.hid hbi
              obtain ⟨og, hog⟩ : ∃ og, getM R t = (og, true) := ⟨(getM R t).1, by rw [← hget]⟩
              have HOG := Lib.hid hog
              clear hget hbi hog
              go_wp2_with fail
              refine (mf_get t P.out.r HOG.out).mono ?_
              rintro e w11 ⟨rfl, -, b11⟩
              have P11 := Lib.hid (P.out.below b11)
              clear b11 y0 y1 y2 y3 y4 y5
              go_wp2_with fail
              exact ⟨⟨k + 1, F, G, _, _, by omega, by go_num, P11.out.below (below_alloc w11 _), HBI⟩, by simp [intOf]; omega⟩
            · have HBI := Lib.hid hbi
              have HSET := Lib.hid hset
              obtain ⟨o2, hset2⟩ := hset2
              have HSET2 := Lib.hid hset2
              clear hset hset2 hbi
              go_wp2_with fail
              refine (mf_settle t P.out.m HSET.out).mono ?_
              rintro e w11 ⟨F11, rfl, m11, t11, f11⟩
              have P11 := Lib.hid (P.out.left m11 t11 f11)
              have HX11 := Lib.hid (HX.out.tch t11 HXF.out.1)
              have HXF11 := Lib.hid (And.intro (out_off HXF.out.1 f11 hXW) HXF.out.2)
              clear m11 t11 f11 y0 y1 y2 y3 y4 y5
              obtain ⟨y0, y1, y2, y3, y4, y5⟩ := HX11.out.cells
              simp only at y0 y1 y2 y3 y4 y5
              have hX11 : X < w11.heap.size := heap_lt HX11.out
              go_upto_region 31 with fail
              obtain ⟨Y, hY⟩ : ∃ Y, w11.heap.size = Y := ⟨_, rfl⟩
              rw [hY]
              refine forget (fun W => Bo w W a b F11 G (dropM S t) R (some ⟨b3, o3, none⟩) c9 st hm D ∧ StB W X (t, 3, so) ∧ OutAt W Y 0 so ∧ Hid (Y ∉ F11 ∧ Y ∉ G) ∧ Y < W.heap.size) ⟨P11.out.below (below_alloc w11 _), HX11.out.tch (Tch.of_below [] (below_alloc w11 _)) (by simp), hY ▸ OutAt.new w11 so _, Lib.hid ⟨fun h => by have := P11.out.m.is.lts _ h; omega, fun h => by have := P11.out.r.is.lts _ h; omega⟩, by simp; omega⟩ ?_
              clear y0 y1 y2 y3 y4 y5 P11 HX11 hX11 hY
              rintro W12 ⟨p12, hx12, oy12, HYF, hYW⟩
              have P12 := Lib.hid p12
              have HX12 := Lib.hid hx12
              have OY12 := Lib.hid oy12
              obtain ⟨y0, y1, y2, y3, y4, y5⟩ := hx12.cells
              have hXW12 : X < W12.heap.size := heap_lt hx12
              simp only at y0 y1 y2 y3 y4 y5
              clear p12 hx12 oy12
              go_wp2_with fail
              refine (mf_settle t P12.out.r HSET2.out).mono ?_
              rintro e w13 ⟨G13, rfl, r13, t13, f13⟩
              have P13 := Lib.hid (P12.out.right r13 t13 f13)
              have HX13 := Lib.hid (HX12.out.tch t13 HXF11.out.2)
              have OY13 := Lib.hid (OY12.out.tch t13 HYF.out.2)
              clear r13 t13 f13 y0 y1 y2 y3 y4 y5
              go_upto_region 32 with fail
              refine forget (fun W => Bo w W a b F11 G13 (dropM S t) (dropM R t) (some ⟨b3, o3, none⟩) c9 st hm D ∧ StB W X (t, 3, so) ∧ OutAt W Y 0 so) ⟨P13.out.below (below_alloc w13 _), HX13.out.tch (Tch.of_below [] (below_alloc w13 _)) (by simp), OY13.out.below (below_alloc w13 _)⟩ ?_
              clear P13 HX13 OY13
              rintro W14 ⟨p14, hx14, oy14⟩
              have P14 := Lib.hid p14
              obtain ⟨y0, y1, y2, y3, y4, y5⟩ := hx14.cells
              obtain ⟨z0, z1, z2, z3⟩ := oy14
              simp only [Nat.zero_add] at y0 y1 y2 y3 y4 y5 z0 z1 z2 z3
              clear p14 hx14
              go_wp2_with fail
              exact ⟨⟨k + 1, F11, G13, _, _, by omega, by go_num, P14.out, HBI⟩, by simp [intOf]; omega⟩
            · have HBI := Lib.hid hbi
              have HSET := Lib.hid hset
              obtain ⟨og, hog⟩ : ∃ og, getM R t = (og, false) := ⟨(getM R t).1, by rw [← hget]⟩
              have HOG := Lib.hid hog
              clear hset hget hbi hog
              go_wp2_with fail
              refine (mf_settle t P.out.m HSET.out).mono ?_
              rintro e w11 ⟨F11, rfl, m11, t11, f11⟩
              have P11 := Lib.hid (P.out.left m11 t11 f11)
              have HX11 := Lib.hid (HX.out.tch t11 HXF.out.1)
              clear m11 t11 f11 y0 y1 y2 y3 y4 y5
              obtain ⟨y0, y1, y2, y3, y4, y5⟩ := HX11.out.cells
              simp only at y0 y1 y2 y3 y4 y5
              have hX11 : X < w11.heap.size := heap_lt HX11.out
              go_upto_region 36 with fail
              obtain ⟨Y, hY⟩ : ∃ Y, w11.heap.size = Y := ⟨_, rfl⟩
              rw [hY]
              refine forget (fun W => Bo w W a b F11 G (dropM S t) R (some ⟨b3, o3, none⟩) c9 st hm D ∧ StB W X (t, 4, so) ∧ OutAt W Y 0 so ∧ Y < W.heap.size) ⟨P11.out.below (below_alloc w11 _), HX11.out.tch (Tch.of_below [] (below_alloc w11 _)) (by simp), hY ▸ OutAt.new w11 so _, by simp; omega⟩ ?_
              clear y0 y1 y2 y3 y4 y5 P11 HX11 hX11 hY
              rintro W12 ⟨p12, hx12, oy12, hYW⟩
              have P12 := Lib.hid p12
              have HX12 := Lib.hid hx12
              have OY12 := Lib.hid oy12
              obtain ⟨y0, y1, y2, y3, y4, y5⟩ := hx12.cells
              have hXW12 : X < W12.heap.size := heap_lt hx12
              simp only at y0 y1 y2 y3 y4 y5
              clear p12 hx12 oy12
              go_wp2_with fail
              refine (mf_get t P12.out.r HOG.out).mono ?_
              rintro e w13 ⟨rfl, -, b13⟩
              have P13 := Lib.hid (P12.out.below b13)
              have HX13 := Lib.hid (HX12.out.tch (Tch.of_below [] b13) (by simp))
              have OY13 := Lib.hid (OY12.out.below b13)
              clear b13 y0 y1 y2 y3 y4 y5
              go_upto_region 37 with fail
              refine forget (fun W => Bo w W a b F11 G (dropM S t) R (some ⟨b3, o3, none⟩) c9 st hm D ∧ StB W X (t, 4, so) ∧ OutAt W Y 0 so) ⟨P13.out.below (below_alloc w13 _), HX13.out.tch (Tch.of_below [] (below_alloc w13 _)) (by simp), OY13.out.below (below_alloc w13 _)⟩ ?_
              clear P13 HX13 OY13
              rintro W14 ⟨p14, hx14, oy14⟩
              have P14 := Lib.hid p14
              obtain ⟨y0, y1, y2, y3, y4, y5⟩ := hx14.cells
              obtain ⟨z0, z1, z2, z3⟩ := oy14
              simp only [Nat.zero_add] at y0 y1 y2 y3 y4 y5 z0 z1 z2 z3
              clear p14 hx14
              go_wp2_with fail
              exact ⟨⟨k + 1, F11, G, _, _, by omega, by go_num, P14.out, HBI⟩, by simp [intOf]; omega⟩
          · obtain rfl : k = N := by omega
            have HE := Lib.hid (both_end (by rw [HN.out]; exact HI.out))
            have M15 := Lib.hid P.out.m
            have R15 := Lib.hid P.out.r
            have D15 := Lib.hid P.out.dis
            have HS15 := Lib.hid (show S.length ≤ 20 by rw [HE.out.1]; have := HI.out.few; have := GS.out.few; omega)
            clear P
            go_wp2_with fail
            refine (mf_list M15.out (by have := HS15.out; omega)).mono ?_
            rintro e w16 ⟨v16, rfl, o16, m16, b16⟩
            obtain ⟨A16, c16, rfl, rd16⟩ := o16.rd
            have R16 := Lib.hid (R15.out.below b16)
            have RD16 := Lib.hid rd16
            clear o16 m16 b16 rd16 M15 R15
            go_wp2_with fail
            refine (mf_list R16.out (by have := HE.out.1; have := HS15.out; omega)).mono ?_
            rintro e w17 ⟨v17, rfl, o17, r17, b17⟩
            obtain ⟨A17, c17, rfl⟩ := o17.slice
            have R17 := Lib.hid r17
            have RD17 := Lib.hid (RD16.out.below b17)
            clear o17 r17 b17 R16 RD16
            rw [← HE.out.1]
            obtain ⟨ns, hns⟩ : ∃ ns, S.length = ns := ⟨_, rfl⟩
            have HNS := Lib.hid hns
            have hns20 : ns ≤ 20 := by rw [← hns]; exact HS15.out
            have hs16 := RD17.out.2.1
            have hs17 := RD17.out.2.2.1
            rw [hns] at hs16 ⊢
            clear hns
            go_wp2_with fail
            go_loopw [26, 27, 28] (fun u _ _ wr => ∃ q : Nat, q ≤ ns ∧ u = .int .i64 q ∧ Below w17.heap.size w17 wr) (fun u _ _ _ => ns - (intOf u).toNat)
            case atStart => exact ⟨0, by omega, rfl, Below.refl _ _⟩
            case round =>
              obtain ⟨q, hq, rfl, hbl⟩ := hrel
              have BL := Lib.hid hbl
              clear hbl
              obtain ⟨wc, rfl⟩ : ∃ wc : World, wc = wr := ⟨_, rfl⟩
              by_cases hqn : q < ns
              · have hqn' : (q : Int) < ns := by omega
                have hql : q < S.length := by rw [HNS.out]; exact hqn
                obtain ⟨b3, o3, e, x0, x1, x2, x3, x4⟩ := mark_at (RD17.out.below BL.out) q hql
                subst e
                obtain ⟨hg1, hg2⟩ := HE.out.2 _ (List.getElem_mem hql)
                obtain ⟨⟨pt, po⟩, hp⟩ : ∃ p, S[q] = p := ⟨_, rfl⟩
                rw [hp] at hg1 hg2 x0 x1 x2 x3 x4
                simp only at hg1 hg2 x0 x1 x2 x3 x4
                obtain ⟨og, hog⟩ : ∃ og, getM R pt = (og, true) := ⟨(getM R pt).1, by rw [← hg1]⟩
                have HOG := Lib.hid hog
                have HF := Lib.hid hg2
                clear hg1 hg2 hog hp
                go_wp2_with fail
                refine (mf_get pt (R17.out.below BL.out) HOG.out).mono ?_
                rintro e w18 ⟨rfl, -, b18⟩
                have BL18 := Lib.hid (below_then BL.out BL.out.size b18)
                replace x0 := stays_ b18 x0
                replace x1 := stays_ b18 x1
                replace x2 := stays_ b18 x2
                replace x3 := stays_ b18 x3
                replace x4 := stays_ b18 x4
                have hb318 : b3 < w18.heap.size := cell_lt x0
                clear b18
                go_wp2_with fail
                refine (final_calls po _).mono ?_
                rintro e w19 ⟨rfl, b19⟩
                rw [HF.out]
                have BL19 := Lib.hid (below_then (BL18.out.alloc BL18.out.size (.cells #[.int .u8 og.k, .int .u64 og.a, .int .u64 og.b, .string ⟨og.c.toArray⟩] 33)) (by have := BL18.out.size; simp; omega) b19)
                clear b19 x0 x1 x2 x3 x4
                go_wp2_with fail
                exact ⟨⟨q + 1, by omega, by go_num, BL19.out⟩, by simp [intOf]; omega⟩
              · obtain rfl : q = ns := by omega
                go_wp2_with fail
                refine (works_calls _).mono ?_
                rintro e w20 ⟨rfl, b20⟩
                have B20 := Lib.hid (below_then (R17.out.below BL.out).old (R17.out.below BL.out).old.size b20)
                clear b20
                go_wp2_with fail
                go_ret
                exact ⟨rfl, B20.out⟩
theorem mboth_row {w : World} (A : Option Addr) (c : Nat) (own : Ms) (ho : RdM w A c own) (B : Option Addr) (d : Nat) (th : Ms) (ht : RdM w B d th) :
    Calls Try.prog 9 #[.slice A own.length c, .slice B th.length d] w fun e w' => e = .returned (.bool true) ∧ Below w.heap.size w w' := mboth_calls A B _ _ c d own th w ho ht
end Go.Proofs.Ytgmoodcojpbbdaa

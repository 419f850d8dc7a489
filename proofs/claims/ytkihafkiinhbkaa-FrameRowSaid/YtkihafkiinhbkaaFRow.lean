import Derived.Test.YtkihafkiinhbkaaFwLaw
import Derived.Test.YtkihafkiinhbkaaFOwn
import Derived.Deep.RegionHeld3
set_option linter.unusedVariables false
set_option linter.unusedSimpArgs false
namespace Go.Proofs.Ytkihafkiinhbkaa
open Go.RowKit

theorem same_drew (A B : Option Addr) (c d : Nat) (l m : List UInt8) (x y : Nat) (W : World) (h : Rd W A c l) (k : Rd W B d m) :
    Calls Try.prog 23 #[.agg #[.int .u16 x, .slice A l.length c], .agg #[.int .u16 y, .slice B m.length d]] W.drew fun e w' => e = .returned (.bool (decide (x = y) && decide (l = m))) ∧ Below W.heap.size W w' :=
  (same_calls A B c d l m x y W.drew (h.below (Below.refl _ _).drew) (k.below (Below.refl _ _).drew)).mono fun _ _ ⟨h1, h2⟩ => ⟨h1, below_of_drew h2⟩

/-- A frame as it lies in a slice. -/
structure FrameAt where
  ch : Nat
  A : Option Addr
  c : Nat
  l : List UInt8
/-- A slice value reads as frames. -/
structure Frs (w : World) (A : Option Addr) (c : Nat) (fs : List FrameAt) : Prop where
  le : fs.length ≤ c
  max : c ≤ 9223372036854775807
  at_ : ∀ (i : Nat) (hi : i < fs.length), ∃ b o, A = some ⟨b, o, none⟩ ∧ w.cell? ⟨b, o + i * 2, none⟩ = some (.int .u16 (fs[i]).ch) ∧ w.cell? ⟨b, o + i * 2 + 1, none⟩ = some (.slice (fs[i]).A (fs[i]).l.length (fs[i]).c) ∧ (fs[i]).ch ≤ 65535 ∧ Rd w (fs[i]).A (fs[i]).c (fs[i]).l

theorem Frs.below {w w' : World} {A : Option Addr} {c : Nat} {fs : List FrameAt} (h : Frs w A c fs) (hb : Below w.heap.size w w') : Frs w' A c fs :=
  ⟨h.le, h.max, fun i hi => by
    obtain ⟨b, o, h1, h2, h3, h4, h5⟩ := h.at_ i hi
    exact ⟨b, o, h1, below_keeps hb h2 (World.block_lt_of_cell? _ _ h2), below_keeps hb h3 (World.block_lt_of_cell? _ _ h3), h4, h5.below hb⟩⟩

/-- The bytes of frames. -/
def fws (fs : List FrameAt) : List UInt8 := fs.flatMap fun f => fw f.ch f.l

theorem fws_nil : fws [] = [] := rfl
theorem fws_cons (f : FrameAt) (r : List FrameAt) : fws (f :: r) = fw f.ch f.l ++ fws r := by simp [fws]
theorem fws_snoc (r : List FrameAt) (f : FrameAt) : fws (r ++ [f]) = fws r ++ fw f.ch f.l := by simp [fws]
theorem fws_take (fs : List FrameAt) (k : Nat) (h : k < fs.length) : fws (fs.take (k + 1)) = fws (fs.take k) ++ fw (fs[k]).ch (fs[k]).l := by
  rw [List.take_succ_eq_append_getElem h, fws_snoc]
theorem fws_drop (fs : List FrameAt) (k : Nat) (h : k < fs.length) : fws (fs.drop k) = fw (fs[k]).ch (fs[k]).l ++ fws (fs.drop (k + 1)) := by
  rw [List.drop_eq_getElem_cons h, fws_cons]
theorem fws_len : ∀ (fs : List FrameAt), (∀ i (hi : i < fs.length), (fs[i]).l.length ≤ 512) → (fws fs).length ≤ 520 * fs.length
  | [], _ => by simp [fws]
  | f :: r, h => by
    have h0 := h 0 (by simp)
    have := fws_len r (fun i hi => by have := h (i + 1) (by simp; omega); simpa using this)
    rw [fws_cons, List.length_append, fw_length, List.length_cons]
    simp at h0
    omega

set_option maxHeartbeats 800000 in
theorem frow_big (A : Option Addr) (c : Nat) (n : Nat) (w : World) (hb : 40 < n) :
    Calls Try.prog 8 #[.slice A n c] w fun e w' => e = .returned (.bool true) ∧ Below w.heap.size w w' := by
  go_enter Try.func8, Try.ntmps8
  go_wp2_with (go_at_call 14; refine (works11_calls _).mono ?_; rintro e w1 ⟨rfl, h1⟩; have H1 := Lib.hid h1; clear h1)
  go_ret
  exact ⟨rfl, H1.out⟩

set_option maxRecDepth 100000 in
set_option maxHeartbeats 1000000 in
theorem frow_calls (A : Option Addr) (c : Nat) (fs : List FrameAt) (w : World) (h : Frs w A c fs) (hb : fs.length ≤ 40) :
    Calls Try.prog 8 #[.slice A fs.length c] w fun e w' => e = .returned (.bool true) ∧ Below w.heap.size w w' := by
  have HF := Lib.hid h
  have hlc := h.le
  have hmx := h.max
  obtain ⟨N, hN⟩ : ∃ N, fs.length = N := ⟨_, rfl⟩
  rw [hN] at hb hlc ⊢
  have HN := Lib.hid hN
  clear h hN
  go_enter Try.func8, Try.ntmps8
  go_wp2_with fail
  go_loopw [3, 4] (fun b i wr => ∃ k : Nat, k ≤ N ∧ i = .int .i64 k ∧ OwnB wr w.heap.size b (fws (fs.take k)) ∧ Below w.heap.size w wr ∧ Hid (∀ j (hj : j < fs.length), j < k → (fs[j]).l.length ≤ 512)) (fun _ i _ => N - (intOf i).toNat)
  case atStart => exact ⟨0, by omega, rfl, OwnB.nil_, Below.refl _ _, Lib.hid (fun j _ hj => by omega)⟩
  case round =>
    obtain ⟨k, hk, rfl, ho, hbl, HS⟩ := hrel
    have HO := Lib.hid ho
    have HB := Lib.hid hbl
    clear hbl ho
    by_cases hkN : k < N
    · obtain ⟨b0, o0, rfl, g1, g2, g3, g4⟩ := (HF.out.below HB.out).at_ k (by rw [HN.out]; exact hkN)
      obtain ⟨f, hf⟩ : ∃ f, fs[k]'(by rw [HN.out]; exact hkN) = f := ⟨_, rfl⟩
      rw [hf] at g1 g2 g3 g4
      have HFk := Lib.hid hf
      have R := Lib.hid g4
      have hkN' : (k : Int) < N := by omega
      clear hf g4
      by_cases h5 : f.l.length ≤ 512
      · go_wp2_with fail
        refine (write_calls f.A f.c f.l f.ch _ R.out (by omega) g3).mono ?_
        rintro e w1 ⟨v1, sp, rfl, o1, b1⟩
        obtain ⟨A1, c1, rfl, r1⟩ := o1.rd
        have R1 := Lib.hid r1
        have B1 := Lib.hid b1
        have HT := Lib.hid (show fws (fs.take (k + 1)) = fws (fs.take k) ++ fw f.ch f.l by rw [← HFk.out]; exact fws_take fs k (by rw [HN.out]; exact hkN))
        have HLn := Lib.hid (show (fws (fs.take k)).length ≤ 520 * 40 by
          have := fws_len (fs.take k) (fun i hi => by
            have hi' := hi
            rw [List.length_take] at hi'
            rw [List.getElem_take]
            exact HS.out i (by omega) (by omega))
          rw [List.length_take, HN.out] at this
          omega)
        clear o1 r1 b1 g1 g2
        go_wp2_with (at_builtin; refine wpList_appB _ rfl _ _ rfl w.heap.size u3 (fws (fs.take k)) rfl (HO.out.below B1.out) A1 _ _ (fw f.ch f.l) rfl rfl R1.out ?hb ?hbase ?_)
        case hb => have := HLn.out; rw [fw_length]; omega
        case hbase => have := HB.out.size; have := B1.out.size; omega
        intro v2 w2 a1 a2 a3 a4
        rw [← HT.out] at a1
        have A1' := Lib.hid a1
        have A2' := Lib.hid (below_grown (below_then HB.out HB.out.size B1.out) (by have := HB.out.size; have := B1.out.size; omega) a2 (fun k hk => (HO.out.lt k hk).1))
        clear a1 a2 a3 a4
        go_wp2
        go_roundw
        case rel => exact ⟨k + 1, by omega, by go_num, A1'.out, A2'.out, Lib.hid (fun j hj hjk => by
          by_cases hjk' : j < k
          · exact HS.out j hj hjk'
          · obtain rfl : j = k := by omega
            rw [HFk.out]; exact h5)⟩
        case measure => simp [intOf]; omega
      · go_wp2_with fail
        refine (works11_calls _).mono ?_
        rintro e w7 ⟨rfl, b7⟩
        have BW7 := Lib.hid (below_then HB.out HB.out.size b7)
        clear b7
        go_wp2
        go_ret
        exact ⟨rfl, BW7.out⟩
    · obtain rfl : k = N := by omega
      obtain ⟨A1, c1, rfl, r1⟩ := HO.out.rd
      have ht : fs.take k = fs.drop 0 := by rw [← HN.out, List.take_length]; rfl
      rw [ht] at r1 ⊢
      have R1 := Lib.hid r1
      have HLd := Lib.hid (show ∀ j, (fws (fs.drop j)).length ≤ 520 * 40 from fun j => by
        have := fws_len (fs.drop j) (fun i hi => by
          rw [List.getElem_drop]
          rw [List.length_drop] at hi
          exact HS.out (j + i) (by omega) (by have := HN.out; omega))
        rw [List.length_drop, HN.out] at this
        omega)
      clear r1 ht HO
      obtain ⟨L0, hL0⟩ : ∃ L0, fws (fs.drop 0) = L0 := ⟨_, rfl⟩
      have HL0 := Lib.hid hL0
      rw [hL0] at R1 ⊢
      clear hL0
      go_wp2_with fail
      go_loopw [3, 5, 6, 7, 8] (fun b i _ _ _ wq => ∃ (j : Nat) (A' : Option Addr) (c' : Nat), j ≤ k ∧ i = .int .i64 j ∧ b = .slice A' (fws (fs.drop j)).length c' ∧ Rd wq A' c' (fws (fs.drop j)) ∧ Below w.heap.size w wq) (fun _ i _ _ _ _ => k - (intOf i).toNat)
      case atStart => exact ⟨0, A1, c1, by omega, rfl, by rw [HL0.out], by rw [HL0.out]; exact R1.out, HB.out⟩
      case round =>
        obtain ⟨j, A', c', hj, rfl, rfl, hr, hbl⟩ := hrel
        have hlr := hr.len
        have hdl := HLd.out j
        by_cases hjN : j < k
        · obtain ⟨b0, o0, rfl, g1, g2, g3, g4⟩ := (HF.out.below hbl).at_ j (by rw [HN.out]; exact hjN)
          obtain ⟨f, hf⟩ : ∃ f, fs[j]'(by rw [HN.out]; exact hjN) = f := ⟨_, rfl⟩
          rw [hf] at g1 g2 g3 g4
          have h5 : f.l.length ≤ 512 := by rw [← hf]; exact HS.out j (by rw [HN.out]; exact hjN) hjN
          have hdr := fws_drop fs j (by rw [HN.out]; exact hjN)
          rw [hf] at hdr
          have hfr : fr (fws (fs.drop j)) 1024 = ⟨0, 8 + f.l.length, f.ch, f.l⟩ := by rw [hdr]; exact fr_fw_ok f.ch f.l _ 1024 (by omega) g3 (by omega)
          obtain ⟨n, hn⟩ : ∃ n, 8 + f.l.length = n := ⟨_, rfl⟩
          have hcut : ((fws (fs.drop j)).take (fws (fs.drop j)).length).drop n = fws (fs.drop (j + 1)) := by
            rw [List.take_length, hdr, ← hn, ← fw_length f.ch f.l, List.drop_left]
          have hnl : n ≤ (fws (fs.drop j)).length := by rw [hdr, List.length_append, fw_length]; omega
          have hln : (fws (fs.drop j)).length - n = (fws (fs.drop (j + 1))).length := by rw [← hcut, List.length_drop, List.length_take]; omega
          obtain ⟨L, hL⟩ : ∃ L, fws (fs.drop j) = L := ⟨_, rfl⟩
          rw [hL] at hr hlr hdl hfr hcut hnl hln ⊢
          rw [hn] at hfr
          have hn8 : 8 ≤ n ∧ n ≤ 520 := by omega
          have HFR := Lib.hid hfr
          have RL := Lib.hid hr
          have RF := Lib.hid g4
          have HB2 := Lib.hid hbl
          have HCUT := Lib.hid hcut
          have HLN := Lib.hid hln
          have K0 := Lib.hid (World.block_lt_of_cell? _ _ g1)
          have hsl := slice_from' A' L.length c' n .i64 n rfl hnl
          have hjN' : (j : Int) < k := by omega
          clear hf hdr hn hcut hln hL hr hfr g4 hbl
          go_wp2_with fail
          refine (read_calls A' c' L 1024 _ RL.out (by decide)).mono ?_
          rintro e w3 ⟨v3, rfl, o3, b3⟩
          rw [HFR.out] at o3 ⊢
          simp only [frRet] at o3 ⊢
          obtain ⟨A3, c3, rfl, r3⟩ := o3.rd
          have R3 := Lib.hid r3
          have RF3 := Lib.hid (RF.out.below b3)
          have BX := Lib.hid (below_then HB2.out HB2.out.size b3)
          have RL3 := Lib.hid (RL.out.below b3)
          replace g1 := keeps_alloc (below_keeps b3 g1 K0.out)
          replace g2 := keeps_alloc (below_keeps b3 g2 K0.out)
          clear o3 r3 b3 K0
          go_wp2_with fail
          refine forget (fun W => W.cell? ⟨w3.heap.size, 0, none⟩ = some (.int .u16 f.ch) ∧ W.cell? ⟨w3.heap.size, 1, none⟩ = some (.slice A3 f.l.length c3) ∧ W.cell? ⟨b0, o0 + j * 2, none⟩ = some (.int .u16 f.ch) ∧ W.cell? ⟨b0, o0 + j * 2 + 1, none⟩ = some (.slice f.A f.l.length f.c) ∧ Rd W A3 c3 f.l ∧ Rd W f.A f.c f.l ∧ Rd W A' c' L ∧ Below w.heap.size w W)
            ⟨by go_simp, by go_simp, g1 _, g2 _, R3.out.below (below_alloc w3 _), RF3.out.below (below_alloc w3 _), RL3.out.below (below_alloc w3 _), BX.out.alloc BX.out.size _⟩ ?_
          rintro W ⟨f0, f1, f2, f3, f4, f5, f6, f7⟩
          have F4 := Lib.hid f4
          have F5 := Lib.hid f5
          have F6 := Lib.hid f6
          have F7 := Lib.hid f7
          clear f4 f5 f6 f7 g1 g2
          have d1 : decide ((n : Int) < 8) = false := by simp; omega
          have d2 : decide ((L.length : Int) < (n : Int)) = false := by simp; omega
          have d3 : decide (L.length < n) = false := by simp; omega
          have d4 : decide (n < 8) = false := by simp; omega
          go_region_held3 (fun W' => W'.cell? ⟨w3.heap.size, 0, none⟩ = some (.int .u16 f.ch) ∧ W'.cell? ⟨w3.heap.size, 1, none⟩ = some (.slice A3 f.l.length c3) ∧ W'.cell? ⟨b0, o0 + j * 2, none⟩ = some (.int .u16 f.ch) ∧ W'.cell? ⟨b0, o0 + j * 2 + 1, none⟩ = some (.slice f.A f.l.length f.c)) (go_keep)
            (first
              | (go_at_call 23; refine (same_drew A3 f.A c3 f.c f.l f.l f.ch f.ch W F4.out F5.out).mono ?_; rintro e w6 ⟨rfl, b6⟩; rw [decide_eq_true rfl, decide_eq_true rfl, Bool.true_and]; have m0 := below_keeps b6 f0 (World.block_lt_of_cell? _ _ f0); have m1 := below_keeps b6 f1 (World.block_lt_of_cell? _ _ f1); have m2 := below_keeps b6 f2 (World.block_lt_of_cell? _ _ f2); have m3 := below_keeps b6 f3 (World.block_lt_of_cell? _ _ f3); have B6 := Lib.hid b6; clear b6))
          go_wp2
          go_roundw
          case rel => exact ⟨j + 1, cutA A' c' n 1, c' - n, by omega, by go_num, by rw [← HLN.out], by rw [← HCUT.out]; exact ((F6.out.cut n L.length hnl (Nat.le_refl _)).below B6.out), below_then F7.out F7.out.size B6.out⟩
          case measure => simp [intOf]; omega
        · obtain rfl : j = k := by omega
          have hz : (fws (fs.drop j)).length = 0 := by rw [← HN.out, List.drop_length]; rfl
          have HB2 := Lib.hid hbl
          rw [hz]
          clear hr hbl hz hlr hdl
          go_wp2_with fail
          refine (works11_calls _).mono ?_
          rintro e w7 ⟨rfl, b7⟩
          have BW7 := Lib.hid (below_then HB2.out HB2.out.size b7)
          clear b7
          go_wp2
          go_ret
          exact ⟨rfl, BW7.out⟩

theorem frow_all (A : Option Addr) (c : Nat) (fs : List FrameAt) (w : World) (h : Frs w A c fs) :
    Calls Try.prog 8 #[.slice A fs.length c] w fun e w' => e = .returned (.bool true) ∧ Below w.heap.size w w' := by
  by_cases hb : 40 < fs.length
  · exact frow_big A c fs.length w hb
  · exact frow_calls A c fs w h (by omega)
end Go.Proofs.Ytkihafkiinhbkaa

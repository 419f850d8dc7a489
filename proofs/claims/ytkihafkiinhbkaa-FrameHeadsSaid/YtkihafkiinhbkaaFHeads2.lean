import Derived.Test.YtkihafkiinhbkaaFHeads
import Derived.Deep.RegionHeld3
set_option linter.unusedVariables false
set_option linter.unusedSimpArgs false
namespace Go.Proofs.Ytkihafkiinhbkaa
open Go.RowKit

theorem works_drew (W : World) : Calls Try.prog 14 #[] W.drew fun e w' => e = .returned (.bool true) ∧ Below W.heap.size W w' :=
  (works11_calls W.drew).mono fun _ _ ⟨h1, h2⟩ => ⟨h1, below_of_drew h2⟩

set_option maxRecDepth 100000 in
set_option maxHeartbeats 1000000 in
theorem fheads_ok (B : Option Addr) (d : Nat) (p : List UInt8) (s pl ty ch most : Nat) (w : World) (hp : Rd w B d p) (hs : s ≤ 4294967295) (hpl : pl ≤ 255) (hty : ty ≤ 255) (hch : ch ≤ 65535) (hm : most ≤ 4294967295) (hb : p.length ≤ 8192)
    (hc : (8 ≤ s ∧ s ≤ most) ∧ (2 ≤ pl ∧ 4 * pl ≤ s) ∧ ty = 0) :
    Calls Try.prog 7 #[.agg #[.int .u32 s, .int .u8 pl, .int .u8 ty, .int .u16 ch], .slice B p.length d, .int .u32 most] w fun e w' => e = .returned (.bool true) ∧ Below w.heap.size w w' := by
  have HP := Lib.hid hp
  have HH := Lib.hid (head8 s pl ty ch hs hpl hty hch)
  have hdl := hp.len
  obtain ⟨L, hL⟩ : ∃ L, hdb s pl ty ch ++ p = L := ⟨_, rfl⟩
  have hn := (show L.length = 8 + p.length by rw [← hL, List.length_append, hdb_length])
  have hw : wrongAt (fsz L) (fpl L) (fty L) most = 9 := by
    rw [← hL, fsz_hb s pl ty ch p hs, fpl_hb s pl ty ch p hpl, fty_hb s pl ty ch p hty]
    unfold wrongAt
    rw [if_neg (by omega), if_neg (by omega), if_neg (by omega)]
  have HF := Lib.hid (fun k hk h8 => fr_head L most k hk h8)
  have ha := fr_head_all L most (by omega)
  rw [hw] at HF ha
  have HA := Lib.hid (And.intro (ha.2.1 rfl) (ha.2.2 rfl))
  clear ha
  have HG := Lib.hid (show fgood L = ⟨0, s, ch, (L.take s).drop (4 * pl)⟩ by rw [← hL, fgood, fsz_hb s pl ty ch p hs, fpl_hb s pl ty ch p hpl, fch_hb s pl ty ch p hch])
  have HS := Lib.hid (show fsz L = s by rw [← hL, fsz_hb s pl ty ch p hs])
  have HLL := Lib.hid hL
  obtain ⟨n, hn'⟩ : ∃ n, L.length = n := ⟨_, rfl⟩
  have HN := Lib.hid hn'
  have hn2 : 8 ≤ n ∧ n ≤ 8200 := by omega
  have HC := Lib.hid hc
  clear hp hL hw hn hn' hc
  go_enter Try.func7, Try.ntmps7
  go_wp2_with (at_builtin; refine wpList_appB _ rfl _ _ rfl (w.heap.size + 1) (.slice (some ⟨w.heap.size + 1, 0, none⟩) 8 8) (hdb s pl ty ch) rfl ?own B _ _ p rfl rfl (HP.out.below ?rd) ?hb ?hbase ?_)
  case own =>
    have := OwnB.made (l := hdb s pl ty ch) (sp := []) (cap := 8) (g := w.heap.size + 1) (base := w.heap.size + 1) (w := ((w.alloc (.cells #[.int .u32 s, .int .u8 pl, .int .u8 ty, .int .u16 ch] 43)).alloc (.cells (u8s (hdb s pl ty ch)).toArray 5))) (Nat.le_refl _) (by
      have := heap_alloc_new (w.alloc (.cells #[.int .u32 s, .int .u8 pl, .int .u8 ty, .int .u16 ch] 43)) (.cells (u8s (hdb s pl ty ch)).toArray 5)
      simpa using this) (by rw [hdb_length]; rfl) (by decide)
    rw [hdb_length] at this
    rw [HH.out]
    exact this
  case rd => exact ((Below.refl _ _).alloc (by simp) _).alloc (by simp) _
  case hb => rw [hdb_length]; omega
  try (case hbase => simp)
  intro v2 w2 a1 a2 a3 a4
  rw [HLL.out] at a1
  obtain ⟨A2, c2, rfl, r2⟩ := a1.rd
  have hl2 := r2.len
  rw [HN.out] at hl2 ⊢
  have R2 := Lib.hid r2
  have B2 := below_grown (Below.refl (w.heap.size + 1) _) (by simp) a2 (fun k hk => by cases hk; simp)
  have k0 : w2.cell? ⟨w.heap.size, 0, none⟩ = some (.int .u32 s) := below_keeps B2 (by go_simp) (by simp)
  have k1 : w2.cell? ⟨w.heap.size, 1, none⟩ = some (.int .u8 pl) := below_keeps B2 (by go_simp) (by simp)
  have k2 : w2.cell? ⟨w.heap.size, 2, none⟩ = some (.int .u8 ty) := below_keeps B2 (by go_simp) (by simp)
  have k3 : w2.cell? ⟨w.heap.size, 3, none⟩ = some (.int .u16 ch) := below_keeps B2 (by go_simp) (by simp)
  have BW2 := Lib.hid ((((Below.refl w.heap.size w).alloc (by simp) _).alloc (by simp) _).trans (B2.mono (by omega)))
  obtain ⟨hc1, hc2, rfl⟩ := HC.out
  have ht : (((0 : Nat) : Int) != 0) = false := by decide
  clear a1 a2 a3 a4 r2 B2
  go_wp2_with fail
  go_loopw [9, 10, 11, 12] (fun i _ _ _ wr => ∃ k : Nat, k ≤ 9 ∧ i = .int .i64 k ∧ Below w2.heap.size w2 wr) (fun i _ _ _ _ => 9 - (intOf i).toNat)
  case atStart => exact ⟨0, by omega, rfl, Below.refl _ _⟩
  case round =>
    obtain ⟨k, hk, rfl, hbl⟩ := hrel
    have HB := Lib.hid hbl
    clear hbl
    by_cases hk9 : k = 9
    · subst hk9
      have B9 := Lib.hid (below_then BW2.out BW2.out.size HB.out)
      have m0 := below_keeps HB.out k0 (World.block_lt_of_cell? _ _ k0)
      have m1 := below_keeps HB.out k1 (World.block_lt_of_cell? _ _ k1)
      have m3 := below_keeps HB.out k3 (World.block_lt_of_cell? _ _ k3)
      have HK := Lib.hid (World.block_lt_of_cell? _ _ m0)
      clear k0 k1 k2 k3
      by_cases hsn : n < s
      · have HAk := Lib.hid (HA.out.1 (by rw [HN.out, HS.out]; exact hsn))
        go_wp2_with fail
        refine (read_n (R2.out.below HB.out) hm HN.out.symm).mono ?_
        rintro e w3 ⟨v3, rfl, o3, b3⟩
        rw [HAk.out] at o3 ⊢
        simp only [frRet] at o3 ⊢
        obtain ⟨A3, c3, rfl, r3⟩ := o3.rd
        have BW3 := Lib.hid (below_then B9.out B9.out.size b3)
        have q0 := below_keeps b3 m0 HK.out
        have q0' := keeps_alloc q0
        clear o3 r3 b3 m0 m1 m3
        go_wp2_with fail
        refine (works11_calls _).mono ?_
        rintro e w7 ⟨rfl, b7⟩
        have BW7 := Lib.hid (below_then (BW3.out.alloc BW3.out.size _) (by have := BW3.out.size; simp; omega) b7)
        clear b7
        go_wp2
        go_ret
        exact ⟨rfl, BW7.out⟩
      · have HAk := Lib.hid ((HA.out.2 (by rw [HN.out, HS.out]; omega)).trans HG.out)
        have hpl4 : 4 * (pl : Int) ≤ s ∧ (s : Int) ≤ n ∧ (n : Int) ≤ c2 := by omega
        have hsl := slice_both' A2 n c2 (4 * pl) s .i64 .i64 (4 * (pl : Int)) s (by omega) rfl (by omega) (by omega)
        have hrl := (R2.out.cut (4 * pl) s (by omega) (by rw [HN.out]; omega))
        obtain ⟨A7, hA7⟩ : ∃ A7, cutA A2 c2 (4 * pl) 1 = A7 := ⟨_, rfl⟩
        obtain ⟨C, hC⟩ : ∃ C, (L.take s).drop (4 * pl) = C := ⟨_, rfl⟩
        rw [hA7] at hsl hrl
        rw [hC] at hrl HAk
        have hCl : s - 4 * pl = C.length := by rw [← hC, List.length_drop, List.length_take, HN.out]; omega
        rw [hCl] at hsl
        have HRL := Lib.hid hrl
        have HSL := Lib.hid hsl
        clear hrl hsl hA7 hC hCl
        go_wp2_with fail
        refine (read_n (R2.out.below HB.out) hm HN.out.symm).mono ?_
        rintro e w3 ⟨v3, rfl, o3, b3⟩
        rw [HAk.out] at o3 ⊢
        simp only [frRet] at o3 ⊢
        obtain ⟨A3, c3, rfl, r3⟩ := o3.rd
        have R3 := Lib.hid r3
        have BW3 := Lib.hid (below_then B9.out B9.out.size b3)
        have q0 := below_keeps b3 m0 HK.out
        have q1 := below_keeps b3 m1 HK.out
        have q3 := below_keeps b3 m3 HK.out
        have q0' := keeps_alloc q0
        have q1' := keeps_alloc q1
        have q3' := keeps_alloc q3
        have RC := Lib.hid ((HRL.out.below HB.out).below b3)
        have hsl := HSL.out
        clear o3 r3 b3 m0 m1 m3
        go_wp2_with fail
        refine forget (fun W => W.cell? ⟨w.heap.size, 0, none⟩ = some (.int .u32 s) ∧ W.cell? ⟨w.heap.size, 1, none⟩ = some (.int .u8 pl) ∧ W.cell? ⟨w.heap.size, 3, none⟩ = some (.int .u16 ch) ∧ W.cell? ⟨w3.heap.size, 0, none⟩ = some (.int .u16 ch) ∧ W.cell? ⟨w3.heap.size, 1, none⟩ = some (.slice A3 C.length c3) ∧ Rd W A3 c3 C ∧ Rd W A7 (c2 - 4 * pl) C ∧ Below w.heap.size w W)
          ⟨q0' _, q1' _, q3' _, by go_simp, by go_simp, R3.out.below (below_alloc w3 _), RC.out.below (below_alloc w3 _), BW3.out.alloc BW3.out.size _⟩ ?_
        rintro W ⟨f0, f1, f2, f3, f4, f5, f6, f7⟩
        have F5 := Lib.hid (f5.below (Below.refl _ _).drew)
        have F6 := Lib.hid (f6.below (Below.refl _ _).drew)
        have F7 := Lib.hid f7
        clear f5 f6 f7 q0 q1 q3 q0' q1' q3'
        have e1 : ((s : Int) == (s : Int)) = true := by simp
        have e2 : ((ch : Int) == (ch : Int)) = true := by simp
        have hw1 : IntKind.i64.wrap (s : Int) = s := by simp [IntKind.wrap, IntKind.bits, IntKind.signed]; omega
        have hw2 : IntKind.i64.wrap (4 * (pl : Int)) = 4 * pl := by simp [IntKind.wrap, IntKind.bits, IntKind.signed]; omega
        have hw3 : IntKind.i64.wrap (pl : Int) = pl := by simp [IntKind.wrap, IntKind.bits, IntKind.signed]; omega
        go_region_held3 (fun W' => W'.cell? ⟨w.heap.size, 0, none⟩ = some (.int .u32 s) ∧ W'.cell? ⟨w.heap.size, 1, none⟩ = some (.int .u8 pl) ∧ W'.cell? ⟨w.heap.size, 3, none⟩ = some (.int .u16 ch) ∧ W'.cell? ⟨w3.heap.size, 0, none⟩ = some (.int .u16 ch) ∧ W'.cell? ⟨w3.heap.size, 1, none⟩ = some (.slice A3 C.length c3)) (go_keep)
          (first
            | (go_at_call 17; refine (eq_calls A3 A7 c3 (c2 - 4 * pl) C C _ F5.out F6.out).mono ?_; rintro e w6 ⟨rfl, rfl⟩; rw [decide_eq_true rfl])
            | (go_at_call 14; refine (works_drew W).mono ?_; rintro e w7 ⟨rfl, b7⟩; have m0 := below_keeps b7 f0 (World.block_lt_of_cell? _ _ f0); have m1 := below_keeps b7 f1 (World.block_lt_of_cell? _ _ f1); have m2 := below_keeps b7 f2 (World.block_lt_of_cell? _ _ f2); have m3 := below_keeps b7 f3 (World.block_lt_of_cell? _ _ f3); have m4 := below_keeps b7 f4 (World.block_lt_of_cell? _ _ f4); have B7 := Lib.hid b7; clear b7))
        all_goals (go_wp2; go_ret; exact ⟨rfl, below_then F7.out F7.out.size B7.out⟩)
    have hk8 : k ≤ 8 := by omega
    have hk8' : (k : Int) ≤ 8 := by omega
    have hkc : (k : Int) ≤ (c2 : Int) := by omega
    by_cases h4 : k = 8
    · subst h4
      obtain ⟨⟨e8, n8, c8, b8⟩, he8⟩ : ∃ r, fr (L.take 8) most = r := ⟨_, rfl⟩
      have HFk := Lib.hid he8
      clear he8
      go_wp2_with fail
      refine (read_n (R2.out.take0 (k := 8) (by rw [HN.out]; omega) |>.below HB.out) hm (by rw [List.length_take, HN.out]; omega)).mono ?_
      rintro e w3 ⟨v3, rfl, o3, b3⟩
      rw [HFk.out] at o3 ⊢
      simp only [frRet] at o3 ⊢
      obtain ⟨A3, c3, rfl, r3⟩ := o3.rd
      have BX := Lib.hid (below_then HB.out HB.out.size b3)
      clear o3 r3 b3
      go_wp2
      go_roundw
      case rel => exact ⟨8 + 1, by omega, by go_num, BX.out.alloc BX.out.size _⟩
      case measure => simp [intOf]; try omega
    · have HFk := Lib.hid ((HF.out k (by rw [HN.out]; omega) hk8).2 (by omega) (by omega))
      have hb8 : (k : Int) < 8 := by omega
      go_wp2_with fail
      refine (read_n (R2.out.take0 (k := k) (by rw [HN.out]; omega) |>.below HB.out) hm (by rw [List.length_take, HN.out]; omega)).mono ?_
      rintro e w3 ⟨v3, rfl, o3, b3⟩
      rw [HFk.out] at o3 ⊢
      simp only [frRet] at o3 ⊢
      obtain ⟨A3, c3, rfl, r3⟩ := o3.rd
      have BX := Lib.hid (below_then HB.out HB.out.size b3)
      clear o3 r3 b3
      go_wp2
      go_roundw
      case rel => exact ⟨k + 1, by omega, by go_num, BX.out.alloc BX.out.size _⟩
      case measure => simp [intOf]; try omega

theorem fheads_calls (s pl ty ch : Nat) (B : Option Addr) (d : Nat) (p : List UInt8) (m : Int) (w : World) (hh : s ≤ 4294967295 ∧ pl ≤ 255 ∧ ty ≤ 255 ∧ ch ≤ 65535) (hp : Rd w B d p) (hm : (Lit.int .u32 m).wf = true) :
    Calls Try.prog 7 #[.agg #[.int .u32 s, .int .u8 pl, .int .u8 ty, .int .u16 ch], .slice B p.length d, .int .u32 m] w fun e w' => e = .returned (.bool true) ∧ Below w.heap.size w w' := by
  obtain ⟨h0, h1⟩ := wf_u32 hm
  obtain ⟨most, rfl⟩ := Int.eq_ofNat_of_zero_le h0
  obtain ⟨g1, g2, g3, g4⟩ := hh
  have hm' : most ≤ 4294967295 := by omega
  by_cases hb : 8192 < p.length
  · exact fheads_big B d p s pl ty ch most w hb
  by_cases c1 : s < 8
  · exact fheads_w1 B d p s pl ty ch most w hp g1 g2 g3 g4 hm' (by omega) c1
  by_cases c2 : most < s
  · exact fheads_w2 B d p s pl ty ch most w hp g1 g2 g3 g4 hm' (by omega) (by omega)
  by_cases c3 : pl < 2
  · exact fheads_w3 B d p s pl ty ch most w hp g1 g2 g3 g4 hm' (by omega) (by omega)
  by_cases c4 : s < 4 * pl
  · exact fheads_w4 B d p s pl ty ch most w hp g1 g2 g3 g4 hm' (by omega) (by omega)
  by_cases c5 : ty = 0
  · exact fheads_ok B d p s pl ty ch most w hp g1 g2 g3 g4 hm' (by omega) (by omega)
  · exact fheads_w5 B d p s pl ty ch most w hp g1 g2 g3 g4 hm' (by omega) (by omega)
end Go.Proofs.Ytkihafkiinhbkaa

import Derived.Test.YtkihafkiinhbkaaFHeadLaw
import Derived.Test.YtkihafkiinhbkaaFOwn
set_option linter.unusedVariables false
set_option linter.unusedSimpArgs false
namespace Go.Proofs.Ytkihafkiinhbkaa
open Go.RowKit

set_option maxHeartbeats 800000 in
theorem fheads_big (B : Option Addr) (d : Nat) (p : List UInt8) (s pl ty ch most : Nat) (w : World) (hb : 8192 < p.length) :
    Calls Try.prog 7 #[.agg #[.int .u32 s, .int .u8 pl, .int .u8 ty, .int .u16 ch], .slice B p.length d, .int .u32 most] w fun e w' => e = .returned (.bool true) ∧ Below w.heap.size w w' := by
  go_enter Try.func7, Try.ntmps7
  go_wp2_with (go_at_call 14; refine (works11_calls _).mono ?_; rintro e w1 ⟨rfl, h1⟩; have H1 := Lib.hid h1; clear h1)
  go_ret
  exact ⟨rfl, below_then (below_alloc w _) (by simp) H1.out⟩

theorem head8 (s pl ty ch : Nat) (h1 : s ≤ 4294967295) (h2 : pl ≤ 255) (h3 : ty ≤ 255) (h4 : ch ≤ 65535) : (#[.int .u8 ((s : Int) / 16777216), .int .u8 ((s : Int) / 65536 % 256), .int .u8 ((s : Int) / 256 % 256), .int .u8 ((s : Int) % 256), .int .u8 (pl : Int), .int .u8 (ty : Int), .int .u8 ((ch : Int) / 256), .int .u8 ((ch : Int) % 256)] : Array Value) = (u8s (hdb s pl ty ch)).toArray := by
  simp [hdb, bytesBE, u8s, u8]
  omega

set_option maxRecDepth 100000 in
set_option maxHeartbeats 1000000 in
theorem fheads_w1 (B : Option Addr) (d : Nat) (p : List UInt8) (s pl ty ch most : Nat) (w : World) (hp : Rd w B d p) (hs : s ≤ 4294967295) (hpl : pl ≤ 255) (hty : ty ≤ 255) (hch : ch ≤ 65535) (hm : most ≤ 4294967295) (hb : p.length ≤ 8192)
    (hc : s < 8) :
    Calls Try.prog 7 #[.agg #[.int .u32 s, .int .u8 pl, .int .u8 ty, .int .u16 ch], .slice B p.length d, .int .u32 most] w fun e w' => e = .returned (.bool true) ∧ Below w.heap.size w w' := by
  have HP := Lib.hid hp
  have HH := Lib.hid (head8 s pl ty ch hs hpl hty hch)
  have hdl := hp.len
  obtain ⟨L, hL⟩ : ∃ L, hdb s pl ty ch ++ p = L := ⟨_, rfl⟩
  have hn := (show L.length = 8 + p.length by rw [← hL, List.length_append, hdb_length])
  have hw : wrongAt (fsz L) (fpl L) (fty L) most = 4 := by
    rw [← hL, fsz_hb s pl ty ch p hs, fpl_hb s pl ty ch p hpl, fty_hb s pl ty ch p hty]
    unfold wrongAt
    rw [if_pos (by omega)]
  have HF := Lib.hid (fun k hk h8 => fr_head L most k hk h8)
  have HA := Lib.hid (fr_head_all L most (by omega))
  rw [hw] at HF HA
  have HLL := Lib.hid hL
  obtain ⟨n, hn'⟩ : ∃ n, L.length = n := ⟨_, rfl⟩
  have HN := Lib.hid hn'
  have hn2 : 8 ≤ n ∧ n ≤ 8200 := by omega
  have HC := Lib.hid hc
  clear hp hL hw hn hn' hc
  go_enter Try.func7, Try.ntmps7
  go_wp2_with (at_builtin; refine wpList_appB _ rfl _ _ rfl (w.heap.size + 1) (.slice (some ⟨w.heap.size + 1, 0, none⟩) 8 8) (hdb s pl ty ch) rfl ?own B _ _ p rfl rfl (HP.out.below ?rd) ?hb ?hbase ?_)
  case own =>
    have := OwnB.made (l := hdb s pl ty ch) (sp := []) (cap := 8) (g := w.heap.size + 1) (base := w.heap.size + 1) (w := ((w.alloc (.cells #[.int .u32 s, .int .u8 pl, .int .u8 ty, .int .u16 ch] 43)).alloc (.cells (u8s (hdb s pl ty ch)).toArray 5))) (Nat.le_refl _) (by
      have := heap_alloc_new (w.alloc (.cells #[.int .u32 s, .int .u8 pl, .int .u8 ty, .int .u16 ch] 43)) (.cells (u8s (hdb s pl ty ch)).toArray 5)
      simpa using this) (by rw [hdb_length]; rfl) (by decide)
    rw [hdb_length] at this
    rw [HH.out]
    exact this
  case rd => exact ((Below.refl _ _).alloc (by simp) _).alloc (by simp) _
  case hb => rw [hdb_length]; omega
  case hbase => simp
  intro v2 w2 a1 a2 a3 a4
  rw [HLL.out] at a1
  obtain ⟨A2, c2, rfl, r2⟩ := a1.rd
  have hl2 := r2.len
  rw [HN.out] at hl2 ⊢
  have R2 := Lib.hid r2
  have B2 := below_grown (Below.refl (w.heap.size + 1) _) (by simp) a2 (fun k hk => by cases hk; simp)
  have k0 : w2.cell? ⟨w.heap.size, 0, none⟩ = some (.int .u32 s) := below_keeps B2 (by go_simp) (by simp)
  have k1 : w2.cell? ⟨w.heap.size, 1, none⟩ = some (.int .u8 pl) := below_keeps B2 (by go_simp) (by simp)
  have k2 : w2.cell? ⟨w.heap.size, 2, none⟩ = some (.int .u8 ty) := below_keeps B2 (by go_simp) (by simp)
  have k3 : w2.cell? ⟨w.heap.size, 3, none⟩ = some (.int .u16 ch) := below_keeps B2 (by go_simp) (by simp)
  have BW2 := Lib.hid ((((Below.refl w.heap.size w).alloc (by simp) _).alloc (by simp) _).trans (B2.mono (by omega)))
  have hc := HC.out
  clear a1 a2 a3 a4 r2 B2
  go_wp2_with fail
  go_loopw [9, 10, 11, 12] (fun i _ _ _ wr => ∃ k : Nat, k ≤ 9 ∧ i = .int .i64 k ∧ Below w2.heap.size w2 wr) (fun i _ _ _ _ => 9 - (intOf i).toNat)
  case atStart => exact ⟨0, by omega, rfl, Below.refl _ _⟩
  case round =>
    obtain ⟨k, hk, rfl, hbl⟩ := hrel
    have HB := Lib.hid hbl
    clear hbl
    by_cases hk9 : k = 9
    · subst hk9
      have HAk := Lib.hid (HA.out.1 (by decide))
      go_wp2_with fail
      refine (read_n (R2.out.below HB.out) hm HN.out.symm).mono ?_
      rintro e w3 ⟨v3, rfl, o3, b3⟩
      rw [HAk.out] at o3 ⊢
      simp only [frRet] at o3 ⊢
      obtain ⟨A3, c3, rfl, r3⟩ := o3.rd
      have BW3 := Lib.hid (below_then (below_then BW2.out BW2.out.size HB.out) (by have := BW2.out.size; have := HB.out.size; omega) b3)
      clear o3 r3 b3
      go_wp2_with fail
      refine (works11_calls _).mono ?_
      rintro e w7 ⟨rfl, b7⟩
      have BW7 := Lib.hid (below_then (BW3.out.alloc BW3.out.size _) (by have := BW3.out.size; simp; omega) b7)
      clear b7
      go_wp2
      go_ret
      exact ⟨rfl, BW7.out⟩
    have hk8 : k ≤ 8 := by omega
    have hk8' : (k : Int) ≤ 8 := by omega
    have hkc : (k : Int) ≤ (c2 : Int) := by omega
    by_cases h4 : 4 ≤ k
    · have HFk := Lib.hid ((HF.out k (by rw [HN.out]; omega) hk8).1 h4)
      go_wp2_with fail
      refine (read_n (R2.out.take0 (k := k) (by rw [HN.out]; omega) |>.below HB.out) hm (by rw [List.length_take, HN.out]; omega)).mono ?_
      rintro e w3 ⟨v3, rfl, o3, b3⟩
      rw [HFk.out] at o3 ⊢
      simp only [frRet] at o3 ⊢
      obtain ⟨A3, c3, rfl, r3⟩ := o3.rd
      have BX := Lib.hid (below_then HB.out HB.out.size b3)
      clear o3 r3 b3
      go_wp2
      go_roundw
      case rel => exact ⟨k + 1, by omega, by go_num, BX.out.alloc BX.out.size _⟩
      case measure => simp [intOf]; omega
    · have HFk := Lib.hid ((HF.out k (by rw [HN.out]; omega) hk8).2 (by omega) (by omega))
      go_wp2_with fail
      refine (read_n (R2.out.take0 (k := k) (by rw [HN.out]; omega) |>.below HB.out) hm (by rw [List.length_take, HN.out]; omega)).mono ?_
      rintro e w3 ⟨v3, rfl, o3, b3⟩
      rw [HFk.out] at o3 ⊢
      simp only [frRet] at o3 ⊢
      obtain ⟨A3, c3, rfl, r3⟩ := o3.rd
      have BX := Lib.hid (below_then HB.out HB.out.size b3)
      clear o3 r3 b3
      go_wp2
      go_roundw
      case rel => exact ⟨k + 1, by omega, by go_num, BX.out.alloc BX.out.size _⟩
      case measure => simp [intOf]; omega

-- MORE
set_option maxRecDepth 100000 in
set_option maxHeartbeats 1000000 in
theorem fheads_w2 (B : Option Addr) (d : Nat) (p : List UInt8) (s pl ty ch most : Nat) (w : World) (hp : Rd w B d p) (hs : s ≤ 4294967295) (hpl : pl ≤ 255) (hty : ty ≤ 255) (hch : ch ≤ 65535) (hm : most ≤ 4294967295) (hb : p.length ≤ 8192)
    (hc : 8 ≤ s ∧ most < s) :
    Calls Try.prog 7 #[.agg #[.int .u32 s, .int .u8 pl, .int .u8 ty, .int .u16 ch], .slice B p.length d, .int .u32 most] w fun e w' => e = .returned (.bool true) ∧ Below w.heap.size w w' := by
  have HP := Lib.hid hp
  have HH := Lib.hid (head8 s pl ty ch hs hpl hty hch)
  have hdl := hp.len
  obtain ⟨L, hL⟩ : ∃ L, hdb s pl ty ch ++ p = L := ⟨_, rfl⟩
  have hn := (show L.length = 8 + p.length by rw [← hL, List.length_append, hdb_length])
  have hw : wrongAt (fsz L) (fpl L) (fty L) most = 4 := by
    rw [← hL, fsz_hb s pl ty ch p hs, fpl_hb s pl ty ch p hpl, fty_hb s pl ty ch p hty]
    unfold wrongAt
    rw [if_pos (by omega)]
  have HF := Lib.hid (fun k hk h8 => fr_head L most k hk h8)
  have HA := Lib.hid (fr_head_all L most (by omega))
  rw [hw] at HF HA
  have HLL := Lib.hid hL
  obtain ⟨n, hn'⟩ : ∃ n, L.length = n := ⟨_, rfl⟩
  have HN := Lib.hid hn'
  have hn2 : 8 ≤ n ∧ n ≤ 8200 := by omega
  have HC := Lib.hid hc
  clear hp hL hw hn hn' hc
  go_enter Try.func7, Try.ntmps7
  go_wp2_with (at_builtin; refine wpList_appB _ rfl _ _ rfl (w.heap.size + 1) (.slice (some ⟨w.heap.size + 1, 0, none⟩) 8 8) (hdb s pl ty ch) rfl ?own B _ _ p rfl rfl (HP.out.below ?rd) ?hb ?hbase ?_)
  case own =>
    have := OwnB.made (l := hdb s pl ty ch) (sp := []) (cap := 8) (g := w.heap.size + 1) (base := w.heap.size + 1) (w := ((w.alloc (.cells #[.int .u32 s, .int .u8 pl, .int .u8 ty, .int .u16 ch] 43)).alloc (.cells (u8s (hdb s pl ty ch)).toArray 5))) (Nat.le_refl _) (by
      have := heap_alloc_new (w.alloc (.cells #[.int .u32 s, .int .u8 pl, .int .u8 ty, .int .u16 ch] 43)) (.cells (u8s (hdb s pl ty ch)).toArray 5)
      simpa using this) (by rw [hdb_length]; rfl) (by decide)
    rw [hdb_length] at this
    rw [HH.out]
    exact this
  case rd => exact ((Below.refl _ _).alloc (by simp) _).alloc (by simp) _
  case hb => rw [hdb_length]; omega
  case hbase => simp
  intro v2 w2 a1 a2 a3 a4
  rw [HLL.out] at a1
  obtain ⟨A2, c2, rfl, r2⟩ := a1.rd
  have hl2 := r2.len
  rw [HN.out] at hl2 ⊢
  have R2 := Lib.hid r2
  have B2 := below_grown (Below.refl (w.heap.size + 1) _) (by simp) a2 (fun k hk => by cases hk; simp)
  have k0 : w2.cell? ⟨w.heap.size, 0, none⟩ = some (.int .u32 s) := below_keeps B2 (by go_simp) (by simp)
  have k1 : w2.cell? ⟨w.heap.size, 1, none⟩ = some (.int .u8 pl) := below_keeps B2 (by go_simp) (by simp)
  have k2 : w2.cell? ⟨w.heap.size, 2, none⟩ = some (.int .u8 ty) := below_keeps B2 (by go_simp) (by simp)
  have k3 : w2.cell? ⟨w.heap.size, 3, none⟩ = some (.int .u16 ch) := below_keeps B2 (by go_simp) (by simp)
  have BW2 := Lib.hid ((((Below.refl w.heap.size w).alloc (by simp) _).alloc (by simp) _).trans (B2.mono (by omega)))
  have hc := HC.out
  clear a1 a2 a3 a4 r2 B2
  go_wp2_with fail
  go_loopw [9, 10, 11, 12] (fun i _ _ _ wr => ∃ k : Nat, k ≤ 9 ∧ i = .int .i64 k ∧ Below w2.heap.size w2 wr) (fun i _ _ _ _ => 9 - (intOf i).toNat)
  case atStart => exact ⟨0, by omega, rfl, Below.refl _ _⟩
  case round =>
    obtain ⟨k, hk, rfl, hbl⟩ := hrel
    have HB := Lib.hid hbl
    clear hbl
    by_cases hk9 : k = 9
    · subst hk9
      have HAk := Lib.hid (HA.out.1 (by decide))
      go_wp2_with fail
      refine (read_n (R2.out.below HB.out) hm HN.out.symm).mono ?_
      rintro e w3 ⟨v3, rfl, o3, b3⟩
      rw [HAk.out] at o3 ⊢
      simp only [frRet] at o3 ⊢
      obtain ⟨A3, c3, rfl, r3⟩ := o3.rd
      have BW3 := Lib.hid (below_then (below_then BW2.out BW2.out.size HB.out) (by have := BW2.out.size; have := HB.out.size; omega) b3)
      clear o3 r3 b3
      go_wp2_with fail
      refine (works11_calls _).mono ?_
      rintro e w7 ⟨rfl, b7⟩
      have BW7 := Lib.hid (below_then (BW3.out.alloc BW3.out.size _) (by have := BW3.out.size; simp; omega) b7)
      clear b7
      go_wp2
      go_ret
      exact ⟨rfl, BW7.out⟩
    have hk8 : k ≤ 8 := by omega
    have hk8' : (k : Int) ≤ 8 := by omega
    have hkc : (k : Int) ≤ (c2 : Int) := by omega
    by_cases h4 : 4 ≤ k
    · have HFk := Lib.hid ((HF.out k (by rw [HN.out]; omega) hk8).1 h4)
      go_wp2_with fail
      refine (read_n (R2.out.take0 (k := k) (by rw [HN.out]; omega) |>.below HB.out) hm (by rw [List.length_take, HN.out]; omega)).mono ?_
      rintro e w3 ⟨v3, rfl, o3, b3⟩
      rw [HFk.out] at o3 ⊢
      simp only [frRet] at o3 ⊢
      obtain ⟨A3, c3, rfl, r3⟩ := o3.rd
      have BX := Lib.hid (below_then HB.out HB.out.size b3)
      clear o3 r3 b3
      go_wp2
      go_roundw
      case rel => exact ⟨k + 1, by omega, by go_num, BX.out.alloc BX.out.size _⟩
      case measure => simp [intOf]; omega
    · have HFk := Lib.hid ((HF.out k (by rw [HN.out]; omega) hk8).2 (by omega) (by omega))
      go_wp2_with fail
      refine (read_n (R2.out.take0 (k := k) (by rw [HN.out]; omega) |>.below HB.out) hm (by rw [List.length_take, HN.out]; omega)).mono ?_
      rintro e w3 ⟨v3, rfl, o3, b3⟩
      rw [HFk.out] at o3 ⊢
      simp only [frRet] at o3 ⊢
      obtain ⟨A3, c3, rfl, r3⟩ := o3.rd
      have BX := Lib.hid (below_then HB.out HB.out.size b3)
      clear o3 r3 b3
      go_wp2
      go_roundw
      case rel => exact ⟨k + 1, by omega, by go_num, BX.out.alloc BX.out.size _⟩
      case measure => simp [intOf]; omega

set_option maxRecDepth 100000 in
set_option maxHeartbeats 1000000 in
theorem fheads_w3 (B : Option Addr) (d : Nat) (p : List UInt8) (s pl ty ch most : Nat) (w : World) (hp : Rd w B d p) (hs : s ≤ 4294967295) (hpl : pl ≤ 255) (hty : ty ≤ 255) (hch : ch ≤ 65535) (hm : most ≤ 4294967295) (hb : p.length ≤ 8192)
    (hc : (8 ≤ s ∧ s ≤ most) ∧ pl < 2) :
    Calls Try.prog 7 #[.agg #[.int .u32 s, .int .u8 pl, .int .u8 ty, .int .u16 ch], .slice B p.length d, .int .u32 most] w fun e w' => e = .returned (.bool true) ∧ Below w.heap.size w w' := by
  have HP := Lib.hid hp
  have HH := Lib.hid (head8 s pl ty ch hs hpl hty hch)
  have hdl := hp.len
  obtain ⟨L, hL⟩ : ∃ L, hdb s pl ty ch ++ p = L := ⟨_, rfl⟩
  have hn := (show L.length = 8 + p.length by rw [← hL, List.length_append, hdb_length])
  have hw : wrongAt (fsz L) (fpl L) (fty L) most = 5 := by
    rw [← hL, fsz_hb s pl ty ch p hs, fpl_hb s pl ty ch p hpl, fty_hb s pl ty ch p hty]
    unfold wrongAt
    rw [if_neg (by omega), if_pos (by omega)]
  have HF := Lib.hid (fun k hk h8 => fr_head L most k hk h8)
  have HA := Lib.hid (fr_head_all L most (by omega))
  rw [hw] at HF HA
  have HLL := Lib.hid hL
  obtain ⟨n, hn'⟩ : ∃ n, L.length = n := ⟨_, rfl⟩
  have HN := Lib.hid hn'
  have hn2 : 8 ≤ n ∧ n ≤ 8200 := by omega
  have HC := Lib.hid hc
  clear hp hL hw hn hn' hc
  go_enter Try.func7, Try.ntmps7
  go_wp2_with (at_builtin; refine wpList_appB _ rfl _ _ rfl (w.heap.size + 1) (.slice (some ⟨w.heap.size + 1, 0, none⟩) 8 8) (hdb s pl ty ch) rfl ?own B _ _ p rfl rfl (HP.out.below ?rd) ?hb ?hbase ?_)
  case own =>
    have := OwnB.made (l := hdb s pl ty ch) (sp := []) (cap := 8) (g := w.heap.size + 1) (base := w.heap.size + 1) (w := ((w.alloc (.cells #[.int .u32 s, .int .u8 pl, .int .u8 ty, .int .u16 ch] 43)).alloc (.cells (u8s (hdb s pl ty ch)).toArray 5))) (Nat.le_refl _) (by
      have := heap_alloc_new (w.alloc (.cells #[.int .u32 s, .int .u8 pl, .int .u8 ty, .int .u16 ch] 43)) (.cells (u8s (hdb s pl ty ch)).toArray 5)
      simpa using this) (by rw [hdb_length]; rfl) (by decide)
    rw [hdb_length] at this
    rw [HH.out]
    exact this
  case rd => exact ((Below.refl _ _).alloc (by simp) _).alloc (by simp) _
  case hb => rw [hdb_length]; omega
  case hbase => simp
  intro v2 w2 a1 a2 a3 a4
  rw [HLL.out] at a1
  obtain ⟨A2, c2, rfl, r2⟩ := a1.rd
  have hl2 := r2.len
  rw [HN.out] at hl2 ⊢
  have R2 := Lib.hid r2
  have B2 := below_grown (Below.refl (w.heap.size + 1) _) (by simp) a2 (fun k hk => by cases hk; simp)
  have k0 : w2.cell? ⟨w.heap.size, 0, none⟩ = some (.int .u32 s) := below_keeps B2 (by go_simp) (by simp)
  have k1 : w2.cell? ⟨w.heap.size, 1, none⟩ = some (.int .u8 pl) := below_keeps B2 (by go_simp) (by simp)
  have k2 : w2.cell? ⟨w.heap.size, 2, none⟩ = some (.int .u8 ty) := below_keeps B2 (by go_simp) (by simp)
  have k3 : w2.cell? ⟨w.heap.size, 3, none⟩ = some (.int .u16 ch) := below_keeps B2 (by go_simp) (by simp)
  have BW2 := Lib.hid ((((Below.refl w.heap.size w).alloc (by simp) _).alloc (by simp) _).trans (B2.mono (by omega)))
  have hc := HC.out
  clear a1 a2 a3 a4 r2 B2
  go_wp2_with fail
  go_loopw [9, 10, 11, 12] (fun i _ _ _ wr => ∃ k : Nat, k ≤ 9 ∧ i = .int .i64 k ∧ Below w2.heap.size w2 wr) (fun i _ _ _ _ => 9 - (intOf i).toNat)
  case atStart => exact ⟨0, by omega, rfl, Below.refl _ _⟩
  case round =>
    obtain ⟨k, hk, rfl, hbl⟩ := hrel
    have HB := Lib.hid hbl
    clear hbl
    by_cases hk9 : k = 9
    · subst hk9
      have HAk := Lib.hid (HA.out.1 (by decide))
      go_wp2_with fail
      refine (read_n (R2.out.below HB.out) hm HN.out.symm).mono ?_
      rintro e w3 ⟨v3, rfl, o3, b3⟩
      rw [HAk.out] at o3 ⊢
      simp only [frRet] at o3 ⊢
      obtain ⟨A3, c3, rfl, r3⟩ := o3.rd
      have BW3 := Lib.hid (below_then (below_then BW2.out BW2.out.size HB.out) (by have := BW2.out.size; have := HB.out.size; omega) b3)
      clear o3 r3 b3
      go_wp2_with fail
      refine (works11_calls _).mono ?_
      rintro e w7 ⟨rfl, b7⟩
      have BW7 := Lib.hid (below_then (BW3.out.alloc BW3.out.size _) (by have := BW3.out.size; simp; omega) b7)
      clear b7
      go_wp2
      go_ret
      exact ⟨rfl, BW7.out⟩
    have hk8 : k ≤ 8 := by omega
    have hk8' : (k : Int) ≤ 8 := by omega
    have hkc : (k : Int) ≤ (c2 : Int) := by omega
    by_cases h4 : 5 ≤ k
    · have HFk := Lib.hid ((HF.out k (by rw [HN.out]; omega) hk8).1 h4)
      go_wp2_with fail
      refine (read_n (R2.out.take0 (k := k) (by rw [HN.out]; omega) |>.below HB.out) hm (by rw [List.length_take, HN.out]; omega)).mono ?_
      rintro e w3 ⟨v3, rfl, o3, b3⟩
      rw [HFk.out] at o3 ⊢
      simp only [frRet] at o3 ⊢
      obtain ⟨A3, c3, rfl, r3⟩ := o3.rd
      have BX := Lib.hid (below_then HB.out HB.out.size b3)
      clear o3 r3 b3
      go_wp2
      go_roundw
      case rel => exact ⟨k + 1, by omega, by go_num, BX.out.alloc BX.out.size _⟩
      case measure => simp [intOf]; omega
    · have HFk := Lib.hid ((HF.out k (by rw [HN.out]; omega) hk8).2 (by omega) (by omega))
      go_wp2_with fail
      refine (read_n (R2.out.take0 (k := k) (by rw [HN.out]; omega) |>.below HB.out) hm (by rw [List.length_take, HN.out]; omega)).mono ?_
      rintro e w3 ⟨v3, rfl, o3, b3⟩
      rw [HFk.out] at o3 ⊢
      simp only [frRet] at o3 ⊢
      obtain ⟨A3, c3, rfl, r3⟩ := o3.rd
      have BX := Lib.hid (below_then HB.out HB.out.size b3)
      clear o3 r3 b3
      go_wp2
      go_roundw
      case rel => exact ⟨k + 1, by omega, by go_num, BX.out.alloc BX.out.size _⟩
      case measure => simp [intOf]; omega

set_option maxRecDepth 100000 in
set_option maxHeartbeats 1000000 in
theorem fheads_w4 (B : Option Addr) (d : Nat) (p : List UInt8) (s pl ty ch most : Nat) (w : World) (hp : Rd w B d p) (hs : s ≤ 4294967295) (hpl : pl ≤ 255) (hty : ty ≤ 255) (hch : ch ≤ 65535) (hm : most ≤ 4294967295) (hb : p.length ≤ 8192)
    (hc : (8 ≤ s ∧ s ≤ most) ∧ 2 ≤ pl ∧ s < 4 * pl) :
    Calls Try.prog 7 #[.agg #[.int .u32 s, .int .u8 pl, .int .u8 ty, .int .u16 ch], .slice B p.length d, .int .u32 most] w fun e w' => e = .returned (.bool true) ∧ Below w.heap.size w w' := by
  have HP := Lib.hid hp
  have HH := Lib.hid (head8 s pl ty ch hs hpl hty hch)
  have hdl := hp.len
  obtain ⟨L, hL⟩ : ∃ L, hdb s pl ty ch ++ p = L := ⟨_, rfl⟩
  have hn := (show L.length = 8 + p.length by rw [← hL, List.length_append, hdb_length])
  have hw : wrongAt (fsz L) (fpl L) (fty L) most = 5 := by
    rw [← hL, fsz_hb s pl ty ch p hs, fpl_hb s pl ty ch p hpl, fty_hb s pl ty ch p hty]
    unfold wrongAt
    rw [if_neg (by omega), if_pos (by omega)]
  have HF := Lib.hid (fun k hk h8 => fr_head L most k hk h8)
  have HA := Lib.hid (fr_head_all L most (by omega))
  rw [hw] at HF HA
  have HLL := Lib.hid hL
  obtain ⟨n, hn'⟩ : ∃ n, L.length = n := ⟨_, rfl⟩
  have HN := Lib.hid hn'
  have hn2 : 8 ≤ n ∧ n ≤ 8200 := by omega
  have HC := Lib.hid hc
  clear hp hL hw hn hn' hc
  go_enter Try.func7, Try.ntmps7
  go_wp2_with (at_builtin; refine wpList_appB _ rfl _ _ rfl (w.heap.size + 1) (.slice (some ⟨w.heap.size + 1, 0, none⟩) 8 8) (hdb s pl ty ch) rfl ?own B _ _ p rfl rfl (HP.out.below ?rd) ?hb ?hbase ?_)
  case own =>
    have := OwnB.made (l := hdb s pl ty ch) (sp := []) (cap := 8) (g := w.heap.size + 1) (base := w.heap.size + 1) (w := ((w.alloc (.cells #[.int .u32 s, .int .u8 pl, .int .u8 ty, .int .u16 ch] 43)).alloc (.cells (u8s (hdb s pl ty ch)).toArray 5))) (Nat.le_refl _) (by
      have := heap_alloc_new (w.alloc (.cells #[.int .u32 s, .int .u8 pl, .int .u8 ty, .int .u16 ch] 43)) (.cells (u8s (hdb s pl ty ch)).toArray 5)
      simpa using this) (by rw [hdb_length]; rfl) (by decide)
    rw [hdb_length] at this
    rw [HH.out]
    exact this
  case rd => exact ((Below.refl _ _).alloc (by simp) _).alloc (by simp) _
  case hb => rw [hdb_length]; omega
  case hbase => simp
  intro v2 w2 a1 a2 a3 a4
  rw [HLL.out] at a1
  obtain ⟨A2, c2, rfl, r2⟩ := a1.rd
  have hl2 := r2.len
  rw [HN.out] at hl2 ⊢
  have R2 := Lib.hid r2
  have B2 := below_grown (Below.refl (w.heap.size + 1) _) (by simp) a2 (fun k hk => by cases hk; simp)
  have k0 : w2.cell? ⟨w.heap.size, 0, none⟩ = some (.int .u32 s) := below_keeps B2 (by go_simp) (by simp)
  have k1 : w2.cell? ⟨w.heap.size, 1, none⟩ = some (.int .u8 pl) := below_keeps B2 (by go_simp) (by simp)
  have k2 : w2.cell? ⟨w.heap.size, 2, none⟩ = some (.int .u8 ty) := below_keeps B2 (by go_simp) (by simp)
  have k3 : w2.cell? ⟨w.heap.size, 3, none⟩ = some (.int .u16 ch) := below_keeps B2 (by go_simp) (by simp)
  have BW2 := Lib.hid ((((Below.refl w.heap.size w).alloc (by simp) _).alloc (by simp) _).trans (B2.mono (by omega)))
  have hc := HC.out
  clear a1 a2 a3 a4 r2 B2
  go_wp2_with fail
  go_loopw [9, 10, 11, 12] (fun i _ _ _ wr => ∃ k : Nat, k ≤ 9 ∧ i = .int .i64 k ∧ Below w2.heap.size w2 wr) (fun i _ _ _ _ => 9 - (intOf i).toNat)
  case atStart => exact ⟨0, by omega, rfl, Below.refl _ _⟩
  case round =>
    obtain ⟨k, hk, rfl, hbl⟩ := hrel
    have HB := Lib.hid hbl
    clear hbl
    by_cases hk9 : k = 9
    · subst hk9
      have HAk := Lib.hid (HA.out.1 (by decide))
      go_wp2_with fail
      refine (read_n (R2.out.below HB.out) hm HN.out.symm).mono ?_
      rintro e w3 ⟨v3, rfl, o3, b3⟩
      rw [HAk.out] at o3 ⊢
      simp only [frRet] at o3 ⊢
      obtain ⟨A3, c3, rfl, r3⟩ := o3.rd
      have BW3 := Lib.hid (below_then (below_then BW2.out BW2.out.size HB.out) (by have := BW2.out.size; have := HB.out.size; omega) b3)
      clear o3 r3 b3
      go_wp2_with fail
      refine (works11_calls _).mono ?_
      rintro e w7 ⟨rfl, b7⟩
      have BW7 := Lib.hid (below_then (BW3.out.alloc BW3.out.size _) (by have := BW3.out.size; simp; omega) b7)
      clear b7
      go_wp2
      go_ret
      exact ⟨rfl, BW7.out⟩
    have hk8 : k ≤ 8 := by omega
    have hk8' : (k : Int) ≤ 8 := by omega
    have hkc : (k : Int) ≤ (c2 : Int) := by omega
    by_cases h4 : 5 ≤ k
    · have HFk := Lib.hid ((HF.out k (by rw [HN.out]; omega) hk8).1 h4)
      go_wp2_with fail
      refine (read_n (R2.out.take0 (k := k) (by rw [HN.out]; omega) |>.below HB.out) hm (by rw [List.length_take, HN.out]; omega)).mono ?_
      rintro e w3 ⟨v3, rfl, o3, b3⟩
      rw [HFk.out] at o3 ⊢
      simp only [frRet] at o3 ⊢
      obtain ⟨A3, c3, rfl, r3⟩ := o3.rd
      have BX := Lib.hid (below_then HB.out HB.out.size b3)
      clear o3 r3 b3
      go_wp2
      go_roundw
      case rel => exact ⟨k + 1, by omega, by go_num, BX.out.alloc BX.out.size _⟩
      case measure => simp [intOf]; omega
    · have HFk := Lib.hid ((HF.out k (by rw [HN.out]; omega) hk8).2 (by omega) (by omega))
      go_wp2_with fail
      refine (read_n (R2.out.take0 (k := k) (by rw [HN.out]; omega) |>.below HB.out) hm (by rw [List.length_take, HN.out]; omega)).mono ?_
      rintro e w3 ⟨v3, rfl, o3, b3⟩
      rw [HFk.out] at o3 ⊢
      simp only [frRet] at o3 ⊢
      obtain ⟨A3, c3, rfl, r3⟩ := o3.rd
      have BX := Lib.hid (below_then HB.out HB.out.size b3)
      clear o3 r3 b3
      go_wp2
      go_roundw
      case rel => exact ⟨k + 1, by omega, by go_num, BX.out.alloc BX.out.size _⟩
      case measure => simp [intOf]; omega

set_option maxRecDepth 100000 in
set_option maxHeartbeats 1000000 in
theorem fheads_w5 (B : Option Addr) (d : Nat) (p : List UInt8) (s pl ty ch most : Nat) (w : World) (hp : Rd w B d p) (hs : s ≤ 4294967295) (hpl : pl ≤ 255) (hty : ty ≤ 255) (hch : ch ≤ 65535) (hm : most ≤ 4294967295) (hb : p.length ≤ 8192)
    (hc : (8 ≤ s ∧ s ≤ most) ∧ (2 ≤ pl ∧ 4 * pl ≤ s) ∧ ty ≠ 0) :
    Calls Try.prog 7 #[.agg #[.int .u32 s, .int .u8 pl, .int .u8 ty, .int .u16 ch], .slice B p.length d, .int .u32 most] w fun e w' => e = .returned (.bool true) ∧ Below w.heap.size w w' := by
  have HP := Lib.hid hp
  have HH := Lib.hid (head8 s pl ty ch hs hpl hty hch)
  have hdl := hp.len
  obtain ⟨L, hL⟩ : ∃ L, hdb s pl ty ch ++ p = L := ⟨_, rfl⟩
  have hn := (show L.length = 8 + p.length by rw [← hL, List.length_append, hdb_length])
  have hw : wrongAt (fsz L) (fpl L) (fty L) most = 6 := by
    rw [← hL, fsz_hb s pl ty ch p hs, fpl_hb s pl ty ch p hpl, fty_hb s pl ty ch p hty]
    unfold wrongAt
    rw [if_neg (by omega), if_neg (by omega), if_pos (by omega)]
  have HF := Lib.hid (fun k hk h8 => fr_head L most k hk h8)
  have HA := Lib.hid (fr_head_all L most (by omega))
  rw [hw] at HF HA
  have HLL := Lib.hid hL
  obtain ⟨n, hn'⟩ : ∃ n, L.length = n := ⟨_, rfl⟩
  have HN := Lib.hid hn'
  have hn2 : 8 ≤ n ∧ n ≤ 8200 := by omega
  have HC := Lib.hid hc
  clear hp hL hw hn hn' hc
  go_enter Try.func7, Try.ntmps7
  go_wp2_with (at_builtin; refine wpList_appB _ rfl _ _ rfl (w.heap.size + 1) (.slice (some ⟨w.heap.size + 1, 0, none⟩) 8 8) (hdb s pl ty ch) rfl ?own B _ _ p rfl rfl (HP.out.below ?rd) ?hb ?hbase ?_)
  case own =>
    have := OwnB.made (l := hdb s pl ty ch) (sp := []) (cap := 8) (g := w.heap.size + 1) (base := w.heap.size + 1) (w := ((w.alloc (.cells #[.int .u32 s, .int .u8 pl, .int .u8 ty, .int .u16 ch] 43)).alloc (.cells (u8s (hdb s pl ty ch)).toArray 5))) (Nat.le_refl _) (by
      have := heap_alloc_new (w.alloc (.cells #[.int .u32 s, .int .u8 pl, .int .u8 ty, .int .u16 ch] 43)) (.cells (u8s (hdb s pl ty ch)).toArray 5)
      simpa using this) (by rw [hdb_length]; rfl) (by decide)
    rw [hdb_length] at this
    rw [HH.out]
    exact this
  case rd => exact ((Below.refl _ _).alloc (by simp) _).alloc (by simp) _
  case hb => rw [hdb_length]; omega
  case hbase => simp
  intro v2 w2 a1 a2 a3 a4
  rw [HLL.out] at a1
  obtain ⟨A2, c2, rfl, r2⟩ := a1.rd
  have hl2 := r2.len
  rw [HN.out] at hl2 ⊢
  have R2 := Lib.hid r2
  have B2 := below_grown (Below.refl (w.heap.size + 1) _) (by simp) a2 (fun k hk => by cases hk; simp)
  have k0 : w2.cell? ⟨w.heap.size, 0, none⟩ = some (.int .u32 s) := below_keeps B2 (by go_simp) (by simp)
  have k1 : w2.cell? ⟨w.heap.size, 1, none⟩ = some (.int .u8 pl) := below_keeps B2 (by go_simp) (by simp)
  have k2 : w2.cell? ⟨w.heap.size, 2, none⟩ = some (.int .u8 ty) := below_keeps B2 (by go_simp) (by simp)
  have k3 : w2.cell? ⟨w.heap.size, 3, none⟩ = some (.int .u16 ch) := below_keeps B2 (by go_simp) (by simp)
  have BW2 := Lib.hid ((((Below.refl w.heap.size w).alloc (by simp) _).alloc (by simp) _).trans (B2.mono (by omega)))
  have hc := HC.out
  have ht : ((ty : Int) != 0) = true := by simp; omega
  clear a1 a2 a3 a4 r2 B2
  go_wp2_with fail
  go_loopw [9, 10, 11, 12] (fun i _ _ _ wr => ∃ k : Nat, k ≤ 9 ∧ i = .int .i64 k ∧ Below w2.heap.size w2 wr) (fun i _ _ _ _ => 9 - (intOf i).toNat)
  case atStart => exact ⟨0, by omega, rfl, Below.refl _ _⟩
  case round =>
    obtain ⟨k, hk, rfl, hbl⟩ := hrel
    have HB := Lib.hid hbl
    clear hbl
    by_cases hk9 : k = 9
    · subst hk9
      have HAk := Lib.hid (HA.out.1 (by decide))
      go_wp2_with fail
      refine (read_n (R2.out.below HB.out) hm HN.out.symm).mono ?_
      rintro e w3 ⟨v3, rfl, o3, b3⟩
      rw [HAk.out] at o3 ⊢
      simp only [frRet] at o3 ⊢
      obtain ⟨A3, c3, rfl, r3⟩ := o3.rd
      have BW3 := Lib.hid (below_then (below_then BW2.out BW2.out.size HB.out) (by have := BW2.out.size; have := HB.out.size; omega) b3)
      clear o3 r3 b3
      go_wp2_with fail
      refine (works11_calls _).mono ?_
      rintro e w7 ⟨rfl, b7⟩
      have BW7 := Lib.hid (below_then (BW3.out.alloc BW3.out.size _) (by have := BW3.out.size; simp; omega) b7)
      clear b7
      go_wp2
      go_ret
      exact ⟨rfl, BW7.out⟩
    have hk8 : k ≤ 8 := by omega
    have hk8' : (k : Int) ≤ 8 := by omega
    have hkc : (k : Int) ≤ (c2 : Int) := by omega
    by_cases h4 : 6 ≤ k
    · have HFk := Lib.hid ((HF.out k (by rw [HN.out]; omega) hk8).1 h4)
      go_wp2_with fail
      refine (read_n (R2.out.take0 (k := k) (by rw [HN.out]; omega) |>.below HB.out) hm (by rw [List.length_take, HN.out]; omega)).mono ?_
      rintro e w3 ⟨v3, rfl, o3, b3⟩
      rw [HFk.out] at o3 ⊢
      simp only [frRet] at o3 ⊢
      obtain ⟨A3, c3, rfl, r3⟩ := o3.rd
      have BX := Lib.hid (below_then HB.out HB.out.size b3)
      clear o3 r3 b3
      go_wp2
      go_roundw
      case rel => exact ⟨k + 1, by omega, by go_num, BX.out.alloc BX.out.size _⟩
      case measure => simp [intOf]; omega
    · have HFk := Lib.hid ((HF.out k (by rw [HN.out]; omega) hk8).2 (by omega) (by omega))
      go_wp2_with fail
      refine (read_n (R2.out.take0 (k := k) (by rw [HN.out]; omega) |>.below HB.out) hm (by rw [List.length_take, HN.out]; omega)).mono ?_
      rintro e w3 ⟨v3, rfl, o3, b3⟩
      rw [HFk.out] at o3 ⊢
      simp only [frRet] at o3 ⊢
      obtain ⟨A3, c3, rfl, r3⟩ := o3.rd
      have BX := Lib.hid (below_then HB.out HB.out.size b3)
      clear o3 r3 b3
      go_wp2
      go_roundw
      case rel => exact ⟨k + 1, by omega, by go_num, BX.out.alloc BX.out.size _⟩
      case measure => simp [intOf]; omega
end Go.Proofs.Ytkihafkiinhbkaa

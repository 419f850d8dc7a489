import Derived.Test.YtmeljnohkhkfmaaFRRead
import Derived.Deep.RegionHeld3
set_option linter.unusedVariables false
set_option linter.unusedSimpArgs false
namespace Go.Proofs.Ytmeljnohkhkfmaa
open Go.RowKit

set_option maxRecDepth 100000 in
set_option maxHeartbeats 1000000 in
theorem rread_ok (A : Option Addr) (c : Nat) (l : List UInt8) (most s : Nat) (x4 x5 : UInt8) (w : World) (h : Rd w A c l) (hm : most ≤ 4294967295) (hl : l.length ≤ 20000) (hs : be (l.take 4) = s) (hx4 : l[4]? = some x4) (hx5 : l[5]? = some x5)
    (h1 : 8 ≤ s ∧ s ≤ most) (h2 : 2 ≤ x4.toNat ∧ 4 * x4.toNat ≤ s) (h3 : x5.toNat = 0) (h6 : s ≤ l.length) :
    Calls Try.prog 31 #[.slice A l.length c, .int .u32 most] w fun e w' => ∃ v, e = .returned (.tuple #[.agg #[.int .u16 (be ((l.take 8).drop 6) : Nat), v], .int .i64 s, .int .i64 0]) ∧ OwnB w' w.heap.size v ((l.take s).drop (4 * x4.toNat)) ∧ Below w.heap.size w w' := by
  have h4 : 4 ≤ l.length := by omega
  have HT := Lib.hid (h.take0 (k := 4) h4)
  have HT4 := Lib.hid (show (l.take 4).length = 4 by rw [List.length_take]; omega)
  have hlc := h.len
  have HS := Lib.hid hs
  have hs' : s ≤ 4294967295 := by have := be_lt_pow (l.take 4); rw [HT4.out, hs] at this; omega
  obtain ⟨n6, hn6⟩ : ∃ n6, be ((l.take 8).drop 6) = n6 := ⟨_, rfl⟩
  have hn7 : n6 < 65536 := by rw [← hn6]; exact Nat.lt_of_lt_of_le (be_lt_pow _) (by rw [List.length_drop, List.length_take, Nat.min_eq_left (by omega)]; decide)
  have HN6 := Lib.hid hn6
  have hs6 := slice_both' A l.length c 6 8 .i64 .i64 6 8 rfl rfl (by omega) (by omega)
  have hr6 := h.cut 6 8 (by omega) (by omega)
  obtain ⟨A6, hA6⟩ : ∃ A6, cutA A c 6 1 = A6 := ⟨_, rfl⟩
  have hs7 := slice_both' A l.length c (4 * x4.toNat) s .u64 .u64 (4 * (x4.toNat : Int)) s (by omega) rfl (by omega) (by omega)
  have hr7 := h.cut (4 * x4.toNat) s (by omega) h6
  obtain ⟨A7, hA7⟩ : ∃ A7, cutA A c (4 * x4.toNat) 1 = A7 := ⟨_, rfl⟩
  obtain ⟨C, hC⟩ : ∃ C, (l.take s).drop (4 * x4.toNat) = C := ⟨_, rfl⟩
  have hCl : s - 4 * x4.toNat = C.length := by rw [← hC, List.length_drop, List.length_take]; omega
  rw [hA6] at hs6 hr6
  rw [hA7, hCl] at hs7
  rw [hA7, hC] at hr7
  have HR6 := Lib.hid hr6
  have HL6 := Lib.hid (show ((l.take 8).drop 6).length = 2 by rw [List.length_drop, List.length_take]; omega)
  have HR7 := Lib.hid hr7
  have HCl := Lib.hid hCl
  rw [hn6, hC]
  obtain ⟨b, o, hA, hcs⟩ := h.bytes h4
  have hb4 := x4.toNat_lt
  have hb5 := x5.toNat_lt
  have c4 := hcs 4 x4 hx4
  have c5 := hcs 5 x5 hx5
  have d5 : ((x5.toNat : Int) != 0) = false := by simp; omega
  subst hA
  clear h hs hx4 hx5 hcs hn6 hr6 hr7 hA6 hA7 hC hCl
  go_enter Try.func31, Try.ntmps31
  go_wp2_with fail
  refine (rtell_n (HT.out.below (below_alloc w _)) HT4.out (by decide)).mono ?_
  rintro e w1 ⟨rfl, rfl⟩
  rw [HS.out]
  go_wp2_with fail
  refine (rtell_n (HR6.out.below (below_alloc w _)) HL6.out (by decide)).mono ?_
  rintro e w1 ⟨rfl, rfl⟩
  rw [HN6.out]
  go_wp2_with fail
  refine (copy_calls A7 _ C _ (HR7.out.below (below_alloc w _)) (by have := HCl.out; omega)).mono ?_
  rintro e w2 ⟨v2, rfl, o2, b2⟩
  obtain ⟨A8, c8, rfl, r8⟩ := o2.rd
  have O2 := Lib.hid o2
  have B2 := Lib.hid b2
  have hob : (w.alloc (.cells #[.int .u16 0, .slice none 0 0] 39)).heap[w.heap.size]? = some (.cells #[.int .u16 0, .slice none 0 0] 39 (0, 0)) := heap_alloc_new w _
  have f4 := (b2.block w.heap.size (by simp)).trans hob
  have k0 : w2.cell? ⟨w.heap.size, 0, none⟩ = some (.int .u16 0) := cell_of_heap (l := [.int .u16 0, .slice none 0 0]) f4 0 _ rfl
  have k1 : w2.cell? ⟨w.heap.size, 1, none⟩ = some (.slice none 0 0) := cell_of_heap (l := [.int .u16 0, .slice none 0 0]) f4 1 _ rfl
  have z0 := froz_of_heap f4 0
  have z1 := froz_of_heap f4 1
  have hw6 : IntKind.u16.wrap (n6 : Int) = n6 := by simp [IntKind.wrap, IntKind.bits, IntKind.signed]; omega
  have hwS : IntKind.i64.wrap (s : Int) = s := by simp [IntKind.wrap, IntKind.bits, IntKind.signed]; omega
  have o1 : ∀ k, Value.ownBlock (.slice A8 C.length c8) = some k → k ≠ w.heap.size := fun k hk => by have := (O2.out.lt k hk).1; simp at this; omega
  clear o2 b2 r8 hob f4
  go_wp2_with fail
  refine bodyPost_ret (v := .tuple #[.agg #[.int .u16 n6, .slice A8 C.length c8], .int .i64 s, .int .i64 0]) (by simp [results, Try.results31, go_sem, *]) rfl ⟨_, rfl, ?_, ?_⟩
  · exact ((O2.out.base (by simp)).set_other o1 _).set_other o1 _
  · exact Below.setCell (Below.setCell (below_then (below_alloc w _) (by simp) B2.out) (by simp) _) (by simp) _

/-- The document's reading answers as fr. -/
theorem rread_calls (A : Option Addr) (c : Nat) (l : List UInt8) (most : Nat) (w : World) (h : Rd w A c l) (hm : most ≤ 4294967295) (hl : l.length ≤ 20000) :
    Calls Try.prog 31 #[.slice A l.length c, .int .u32 most] w fun e w' => ∃ v, e = frRet (fr l most) v ∧ OwnB w' w.heap.size v (fr l most).body ∧ Below w.heap.size w w' := by
  have no : ∀ k : Nat, fr l most = ⟨k, 0, 0, []⟩ → (Calls Try.prog 31 #[.slice A l.length c, .int .u32 most] w fun e w' => e = .returned (.tuple #[.agg #[.int .u16 0, .slice none 0 0], .int .i64 0, .int .i64 k]) ∧ Below w.heap.size w w') →
      Calls Try.prog 31 #[.slice A l.length c, .int .u32 most] w fun e w' => ∃ v, e = frRet (fr l most) v ∧ OwnB w' w.heap.size v (fr l most).body ∧ Below w.heap.size w w' := by
    intro k hf hc
    rw [hf]
    exact hc.mono fun _ _ ⟨h1, h2⟩ => ⟨.slice none 0 0, h1, OwnB.nil_, h2⟩
  by_cases g4 : l.length < 4
  · exact no 7 (fr_short (by omega) (by omega) (by omega) (by omega)) (rread_s4 A c l most w g4)
  obtain ⟨x4, hx4⟩ : ∃ x4, 5 ≤ l.length → l[4]? = some x4 := by
    by_cases h5 : 5 ≤ l.length
    · exact ⟨l[4]'(by omega), fun _ => List.getElem?_eq_getElem (by omega)⟩
    · exact ⟨0, fun hh => absurd hh h5⟩
  obtain ⟨x5, hx5⟩ : ∃ x5, 6 ≤ l.length → l[5]? = some x5 := by
    by_cases h5 : 6 ≤ l.length
    · exact ⟨l[5]'(by omega), fun _ => List.getElem?_eq_getElem (by omega)⟩
    · exact ⟨0, fun hh => absurd hh h5⟩
  have ep : 5 ≤ l.length → fpl l = 4 * x4.toNat := fun hh => by rw [fpl, hx4 hh, Option.getD_some]
  have et : 6 ≤ l.length → fty l = x5.toNat := fun hh => by rw [fty, hx5 hh, Option.getD_some]
  by_cases a1 : fsz l < 8
  · exact no 6 (fr_wrong (.inl ⟨by omega, by omega⟩)) (rread_f4a A c l most (fsz l) x4 x5 w h hm (by omega) rfl hx4 hx5 a1)
  by_cases a2 : most < fsz l
  · exact no 6 (fr_wrong (.inl ⟨by omega, by omega⟩)) (rread_f4b A c l most (fsz l) x4 x5 w h hm (by omega) rfl hx4 hx5 ⟨by have : fsz l = be (l.take 4) := rfl; omega, a2⟩)
  have a3 : 8 ≤ fsz l ∧ fsz l ≤ most := by omega
  by_cases g5 : l.length = 4
  · exact no 7 (fr_short (fun _ => a3) (by omega) (by omega) (by omega)) (rread_s5 A c l most (fsz l) x4 x5 w h hm (by omega) rfl hx4 hx5 a3 g5)
  have ep' := ep (by omega)
  by_cases a4 : x4.toNat < 2
  · exact no 6 (fr_wrong (.inr (.inl ⟨by omega, by omega⟩))) (rread_f5a A c l most (fsz l) x4 x5 w h hm (by omega) rfl hx4 hx5 a3 (by omega) a4)
  by_cases a5 : fsz l < 4 * x4.toNat
  · exact no 6 (fr_wrong (.inr (.inl ⟨by omega, by omega⟩))) (rread_f5b A c l most (fsz l) x4 x5 w h hm (by omega) rfl hx4 hx5 a3 (by omega) ⟨by omega, a5⟩)
  have a6 : 2 ≤ x4.toNat ∧ 4 * x4.toNat ≤ fsz l := by omega
  by_cases g6 : l.length = 5
  · exact no 7 (fr_short (fun _ => a3) (fun _ => by omega) (by omega) (by omega)) (rread_s6 A c l most (fsz l) x4 x5 w h hm (by omega) rfl hx4 hx5 a3 g6 a6)
  have et' := et (by omega)
  by_cases a7 : x5.toNat = 0
  · by_cases a8 : l.length < fsz l
    · exact no 7 (fr_short (fun _ => a3) (fun _ => by omega) (fun _ => by omega) (fun _ => a8)) (rread_sl A c l most (fsz l) x4 x5 w h hm (by omega) rfl hx4 hx5 a3 (by omega) a6 a7 a8)
    · have hf := fr_ok a3 (by omega : 8 ≤ fpl l ∧ fpl l ≤ fsz l) (by omega : fty l = 0) (by omega : fsz l ≤ l.length)
      rw [hf, fgood, ep']
      exact (rread_ok A c l most (fsz l) x4 x5 w h hm hl rfl (hx4 (by omega)) (hx5 (by omega)) a3 a6 a7 (by omega)).mono fun _ _ ⟨v, h1, h2, h3⟩ => ⟨v, h1, h2, h3⟩
  · exact no 6 (fr_wrong (.inr (.inr ⟨by omega, by omega⟩))) (rread_f6 A c l most (fsz l) x4 x5 w h hm (by omega) rfl hx4 hx5 a3 (by omega) a6 a7)
end Go.Proofs.Ytmeljnohkhkfmaa

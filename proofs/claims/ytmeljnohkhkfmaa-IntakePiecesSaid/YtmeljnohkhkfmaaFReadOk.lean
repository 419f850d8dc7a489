import Derived.Test.YtmeljnohkhkfmaaFRead
import Derived.Deep.RegionHeld3
set_option linter.unusedVariables false
set_option linter.unusedSimpArgs false
namespace Go.Proofs.Ytmeljnohkhkfmaa
open Go.RowKit

theorem below_keeps {B : Nat} {w w' : World} {a : Addr} {v : Value} (h : Below B w w') (hc : w.cell? a = some v) (hB : a.block < B) : w'.cell? a = some v := (h.cell hB).trans hc

theorem clone_drew (A : Option Addr) (c : Nat) (l : List UInt8) (w W : World) (h : Rd w A c l) (hw : Below w.heap.size w W) (hb : l.length ≤ 140737488351232) :
    Calls Try.prog 37 #[.slice A l.length c] W.drew fun e w' => ∃ v, e = .returned v ∧ OwnB w' W.heap.size v l ∧ Below W.heap.size W w' :=
  (clone_calls A c l W.drew (h.below hw.drew) hb).mono fun _ _ ⟨v, h1, h2, h3, _⟩ => ⟨v, h1, h2, below_of_drew h3⟩

set_option maxRecDepth 100000 in
set_option maxHeartbeats 2000000 in
theorem read_ok (A : Option Addr) (c : Nat) (l : List UInt8) (most : Nat) (w : World) (h : Rd w A c l) (hm : most ≤ 4294967295) (h4 : 6 ≤ l.length) (ho : okSize (be (l.take 4)) most = true) (hp : okSize (4 * ((l[4]?).getD 0).toNat) (be (l.take 4)) = true) (hz : (((((l[5]?).getD 0).toNat : Nat) : Int) == 0) = true) (hl : be (l.take 4) ≤ l.length) :
    Calls Try.prog 26 #[.slice A l.length c, .int .u32 most] w fun e w' => ∃ v, e = .returned (.tuple #[.agg #[.int .u16 (be ((l.take 8).drop 6) : Nat), v], .int .i64 (be (l.take 4) : Nat), .int .i64 0]) ∧ OwnB w' w.heap.size v ((l.take (be (l.take 4))).drop (4 * ((l[4]?).getD 0).toNat)) ∧ Below w.heap.size w w' := by
  have HR := Lib.hid h
  have hlc := h.len
  have HT := Lib.hid ((h.take0 (k := min 4 l.length) (by omega)).below (below_of3 w (.cells #[.slice A l.length c] 24) (.cells #[.int .u32 most] 22) (.cells #[.int .u16 0, .slice none 0 0] 39)))
  clear h
  have hmf : ∀ (fn : Fn) (first cap : Array Value) (w : World), (Instr.makeFunc fn first cap).run Try.prog w = .ok (.func fn first cap) w := fun _ _ _ _ => rfl
  have h8 : 8 ≤ l.length ∧ 8 ≤ be (l.take 4) ∧ be (l.take 4) ≤ most := by
    have := of_decide_eq_true (show decide (8 ≤ be (l.take 4) ∧ be (l.take 4) ≤ most) = true from ho)
    omega
  have h9 : 8 ≤ 4 * ((l[4]?).getD 0).toNat ∧ 4 * ((l[4]?).getD 0).toNat ≤ be (l.take 4) := of_decide_eq_true (show decide _ = true from hp)
  obtain ⟨A6, hA6⟩ : ∃ A6, cutA A c 6 1 = A6 := ⟨_, rfl⟩
  have hs6 := slice_both' A l.length c 6 8 .i64 .i64 6 8 rfl rfl (by omega) (by omega)
  have hr6 := (HR.out.cut 6 8 (by omega) h8.1)
  rw [hA6] at hs6 hr6
  have HR6 := Lib.hid hr6
  clear hA6 hr6
  have i0 := asked_0
  have i1 := asked_1
  have i2 := asked_2
  have hs0 : be (l.take (min 4 l.length)) = be (l.take 4) := by rw [Nat.min_eq_left (by omega)]
  obtain ⟨s, hs⟩ : ∃ s, be (l.take 4) = s := ⟨_, rfl⟩
  rw [hs] at hs0 ho hp hl h8 h9 ⊢
  have HS := Lib.hid hs0
  have HO := Lib.hid ho
  clear hs hs0 ho
  obtain ⟨x4, hx4⟩ : ∃ x, l[4]? = some x := ⟨_, List.getElem?_eq_getElem (by omega)⟩
  rw [hx4, Option.getD_some] at hp h9 ⊢
  have HX4 := Lib.hid hx4
  have HP := Lib.hid hp
  clear hx4 hp
  obtain ⟨x5, hx5⟩ : ∃ x, l[5]? = some x := ⟨_, List.getElem?_eq_getElem (by omega)⟩
  rw [hx5, Option.getD_some] at hz
  have HX5 := Lib.hid hx5
  have HZ := Lib.hid hz
  clear hx5 hz
  obtain ⟨n6, hn6⟩ : ∃ n6, be ((l.take 8).drop 6) = n6 := ⟨_, rfl⟩
  have HN6 := Lib.hid hn6
  have hn7 : n6 < 65536 := by rw [← hn6]; exact Nat.lt_of_lt_of_le (be_lt_pow _) (by rw [List.length_drop, List.length_take, Nat.min_eq_left (by omega)]; decide)
  rw [hn6]
  clear hn6
  have hc9 := HR.out.cut (4 * x4.toNat) s h9.2 hl
  have hs7 := slice_both' A l.length c (4 * x4.toNat) s .u64 .u64 (4 * (x4.toNat : Int)) s (by omega) rfl h9.2 (by omega)
  obtain ⟨A7, hA7⟩ : ∃ A7, cutA A c (4 * x4.toNat) 1 = A7 := ⟨_, rfl⟩
  obtain ⟨C, hC⟩ : ∃ C, (l.take s).drop (4 * x4.toNat) = C := ⟨_, rfl⟩
  have hCl : s - 4 * x4.toNat = C.length := by rw [← hC]; simp; omega
  rw [hA7, hC] at hc9
  have HC := Lib.hid hc9
  rw [hA7, hCl] at hs7
  rw [hC]
  have HS7 := Lib.hid hs7
  have HCl := Lib.hid hCl
  clear hC hA7 hc9 hs7 hCl
  go_enter Try.func26, Try.ntmps26
  go_wp2_with (first
    | (go_at_call 32; refine (tell_n HT.out (by simp; try omega) (by omega)).mono ?_; rintro e w1 ⟨rfl, rfl⟩; rw [HS.out])
    | (go_at_call 34; refine (read2_calls _ _ s most _ (by go_simp) (by go_simp) hm).mono ?_; rintro e w1 ⟨rfl, rfl⟩; rw [HO.out])
    | (go_at_call 35; refine (read3_calls _ _ ⟨w.heap.size, 0, none⟩ A c l.length l x4 s _ (by go_simp) (by go_simp) (by go_simp) (HR.out.below (by repeat (first | exact Below.refl _ _ | refine Below.drew ?_ | refine pw_drewN ?_ _ | refine Below.alloc ?_ (by simp; try omega) _))) rfl (by omega) HX4.out).mono ?_; rintro e w1 ⟨m3, rfl, rfl⟩; rw [HP.out])
    | (go_at_call 36; refine (read4_calls _ A c l.length l x5 _ (by go_simp) (HR.out.below (by repeat (first | exact Below.refl _ _ | refine Below.drew ?_ | refine pw_drewN ?_ _ | refine Below.alloc ?_ (by simp; try omega) _))) rfl (by omega) HX5.out).mono ?_; rintro e w1 ⟨rfl, rfl⟩; rw [HZ.out]))
  refine wp_loop_rounds 4 ?_
  rw [rounds_succ]
  go_wp2_with (first
    | (go_at_call 32; refine (tell_n HT.out (by simp; try omega) (by omega)).mono ?_; rintro e w1 ⟨rfl, rfl⟩; rw [HS.out])
    | (go_at_call 34; refine (read2_calls _ _ s most _ (by go_simp) (by go_simp) hm).mono ?_; rintro e w1 ⟨rfl, rfl⟩; rw [HO.out])
    | (go_at_call 35; refine (read3_calls _ _ ⟨w.heap.size, 0, none⟩ A c l.length l x4 s _ (by go_simp) (by go_simp) (by go_simp) (HR.out.below (by repeat (first | exact Below.refl _ _ | refine Below.drew ?_ | refine pw_drewN ?_ _ | refine Below.alloc ?_ (by simp; try omega) _))) rfl (by omega) HX4.out).mono ?_; rintro e w1 ⟨m3, rfl, rfl⟩; rw [HP.out])
    | (go_at_call 36; refine (read4_calls _ A c l.length l x5 _ (by go_simp) (HR.out.below (by repeat (first | exact Below.refl _ _ | refine Below.drew ?_ | refine pw_drewN ?_ _ | refine Below.alloc ?_ (by simp; try omega) _))) rfl (by omega) HX5.out).mono ?_; rintro e w1 ⟨rfl, rfl⟩; rw [HZ.out]))
  rw [rounds_succ]
  go_wp2_with (first
    | (go_at_call 32; refine (tell_n HT.out (by simp; try omega) (by omega)).mono ?_; rintro e w1 ⟨rfl, rfl⟩; rw [HS.out])
    | (go_at_call 34; refine (read2_calls _ _ s most _ (by go_simp) (by go_simp) hm).mono ?_; rintro e w1 ⟨rfl, rfl⟩; rw [HO.out])
    | (go_at_call 35; refine (read3_calls _ _ ⟨w.heap.size, 0, none⟩ A c l.length l x4 s _ (by go_simp) (by go_simp) (by go_simp) (HR.out.below (by repeat (first | exact Below.refl _ _ | refine Below.drew ?_ | refine pw_drewN ?_ _ | refine Below.alloc ?_ (by simp; try omega) _))) rfl (by omega) HX4.out).mono ?_; rintro e w1 ⟨m3, rfl, rfl⟩; rw [HP.out])
    | (go_at_call 36; refine (read4_calls _ A c l.length l x5 _ (by go_simp) (HR.out.below (by repeat (first | exact Below.refl _ _ | refine Below.drew ?_ | refine pw_drewN ?_ _ | refine Below.alloc ?_ (by simp; try omega) _))) rfl (by omega) HX5.out).mono ?_; rintro e w1 ⟨rfl, rfl⟩; rw [HZ.out]))
  rw [rounds_succ]
  go_wp2_with (first
    | (go_at_call 32; refine (tell_n HT.out (by simp; try omega) (by omega)).mono ?_; rintro e w1 ⟨rfl, rfl⟩; rw [HS.out])
    | (go_at_call 34; refine (read2_calls _ _ s most _ (by go_simp) (by go_simp) hm).mono ?_; rintro e w1 ⟨rfl, rfl⟩; rw [HO.out])
    | (go_at_call 35; refine (read3_calls _ _ ⟨w.heap.size, 0, none⟩ A c l.length l x4 s _ (by go_simp) (by go_simp) (by go_simp) (HR.out.below (by repeat (first | exact Below.refl _ _ | refine Below.drew ?_ | refine pw_drewN ?_ _ | refine Below.alloc ?_ (by simp; try omega) _))) rfl (by omega) HX4.out).mono ?_; rintro e w1 ⟨m3, rfl, rfl⟩; rw [HP.out])
    | (go_at_call 36; refine (read4_calls _ A c l.length l x5 _ (by go_simp) (HR.out.below (by repeat (first | exact Below.refl _ _ | refine Below.drew ?_ | refine pw_drewN ?_ _ | refine Below.alloc ?_ (by simp; try omega) _))) rfl (by omega) HX5.out).mono ?_; rintro e w1 ⟨rfl, rfl⟩; rw [HZ.out]))
  rw [rounds_succ]
  -- SECOND
  go_wp2_with (go_at_call 32; refine (tell_n (HR6.out.below (by repeat (first | exact Below.refl _ _ | refine Below.drew ?_ | refine pw_drewN ?_ _ | refine Below.alloc ?_ (by simp; try omega) _))) (by simp; try omega) (by decide)).mono ?_; rintro e w1 ⟨rfl, rfl⟩; rw [HN6.out])
  refine forget (fun W => W.cell? ⟨w.heap.size, 0, none⟩ = some (.slice A l.length c) ∧ W.cell? ⟨w.heap.size + 1 + 1 + 1, 0, none⟩ = some (.int .u64 (s : Nat)) ∧ W.cell? ⟨w.heap.size + 1 + 1 + 1 + 1, 0, none⟩ = some (.func (.func 33) #[] #[.pointer (some ⟨w.heap.size, 0, none⟩)])
      ∧ W.heap[w.heap.size + 1 + 1]? = some (.cells #[.int .u16 0, .slice none 0 0] 39 (0, 0)) ∧ w.heap.size + 8 ≤ W.heap.size ∧ Below w.heap.size w W) ⟨by go_simp, by go_simp, by go_simp, ?f1, by simp, by repeat (first | exact Below.refl _ _ | refine Below.drew ?_ | refine pw_drewN ?_ _ | refine Below.alloc ?_ (by simp; try omega) _)⟩ ?_
  case f1 =>
    rw [Below.heap_alloc _ _ _ (by simp; try omega)]
    have hdn : ∀ (w : World) (n : Nat), (w.drewN n).heap = w.heap := fun _ _ => rfl
    rw [hdn, Below.heap_alloc _ _ _ (by simp; try omega), Below.heap_alloc _ _ _ (by simp; try omega), Below.heap_alloc _ _ _ (by simp; try omega), Below.heap_alloc _ _ _ (by simp; try omega)]
    have := heap_alloc_new ((w.alloc (.cells #[.slice A l.length c] 24)).alloc (.cells #[.int .u32 most] 22)) (.cells #[.int .u16 0, .slice none 0 0] 39)
    simpa using this
  intro W hF
  obtain ⟨f1, f2, f3, f4, f5, f6⟩ := hF
  have c20 : W.cell? ⟨w.heap.size + 1 + 1, 0, none⟩ = some (.int .u16 0) := cell_of_heap f4 0 _ rfl
  have c21 : W.cell? ⟨w.heap.size + 1 + 1, 1, none⟩ = some (.slice none 0 0) := cell_of_heap f4 1 _ rfl
  have F6 := Lib.hid f6
  clear hmf i0 i1 i2 hs6 f6
  have hs7 := HS7.out
  have hCl' : C.length ≤ 140737488351232 := by have := HCl.out; omega
  have ne0 : w.heap.size + 1 + 1 ≠ w.heap.size := by omega
  have hwS : IntKind.i64.wrap (s : Int) = s := by simp [IntKind.wrap, IntKind.bits, IntKind.signed]; omega
  have hw6 : IntKind.u16.wrap (n6 : Int) = n6 := by simp [IntKind.wrap, IntKind.bits, IntKind.signed]; omega
  go_region_held3 (fun W' => W'.cell? ⟨w.heap.size, 0, none⟩ = some (.slice A l.length c) ∧ W'.cell? ⟨w.heap.size + 1 + 1 + 1, 0, none⟩ = some (.int .u64 (s : Nat)) ∧ W'.cell? ⟨w.heap.size + 1 + 1 + 1 + 1, 0, none⟩ = some (.func (.func 33) #[] #[.pointer (some ⟨w.heap.size, 0, none⟩)])) (go_keep)
    (first
      | (go_at_call 33; refine (read1_calls _ A c l.length l x4 _ (by go_simp) (HR.out.below (by repeat (first | exact F6.out | refine Below.drew ?_))) rfl (by omega) HX4.out).mono ?_; rintro e w1 ⟨rfl, rfl⟩)
      | (go_at_call 37; refine (clone_drew A7 _ C w W HC.out F6.out hCl').mono ?_; rintro e w1 ⟨v, rfl, hv1, hv2⟩; obtain ⟨A8, c8, rfl, hv3⟩ := hv1.rd; have HV1 := Lib.hid hv1; have HV2 := Lib.hid hv2; clear hv1 hv3; have k1 := below_keeps hv2 f1 (by simp; omega); have k2 := below_keeps hv2 f2 (by simp; omega); have k3 := below_keeps hv2 f3 (by simp; omega); have k4 := below_keeps hv2 c20 (by simp; omega); have k5 := below_keeps hv2 c21 (by simp; omega); have f4' := (hv2.block _ (by omega)).trans f4; have z0 := froz_of_heap f4' 0; have z1 := froz_of_heap f4' 1; clear hv2 f4'))
  have o1 : ∀ k, Value.ownBlock (.slice A8 C.length c8) = some k → k ≠ w.heap.size + 1 + 1 := fun k hk => by have := (HV1.out.lt k hk).1; omega
  go_wp2_with fail
  refine bodyPost_ret (v := .tuple #[.agg #[.int .u16 n6, .slice A8 C.length c8], .int .i64 s, .int .i64 0]) (by simp [results, Try.results26, go_sem, *]) rfl ⟨_, rfl, ?_, ?_⟩
  · exact ((HV1.out.base (by omega)).set_other o1 _).set_other o1 _
  · refine Below.setCell (Below.setCell (below_then F6.out (by omega) HV2.out) (by simp; omega) _) (by simp; omega) _
end Go.Proofs.Ytmeljnohkhkfmaa

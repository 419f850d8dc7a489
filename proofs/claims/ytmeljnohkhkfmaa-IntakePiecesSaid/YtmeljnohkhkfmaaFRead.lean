import Derived.Test.YtmeljnohkhkfmaaFClos
set_option linter.unusedVariables false
set_option linter.unusedSimpArgs false
namespace Go.Proofs.Ytmeljnohkhkfmaa
open Go.RowKit

theorem below_of3 (w : World) (a b c : Obj) : Below w.heap.size w (((w.alloc a).alloc b).alloc c) := (((Below.refl _ _).alloc (Nat.le_refl _) _).alloc (by simp) _).alloc (by simp; omega) _
theorem asked_0 (x0 x1 x2 x3 x4 x5 : Value) (w : World) : (Instr.index 68 (.agg #[x0, x1, x2, x3, x4, x5]) (.int .i64 0)).run Try.prog w = .ok (.agg #[x0, x1]) w := by kernel_rfl
theorem asked_1 (x0 x1 x2 x3 x4 x5 : Value) (w : World) : (Instr.index 68 (.agg #[x0, x1, x2, x3, x4, x5]) (.int .i64 1)).run Try.prog w = .ok (.agg #[x2, x3]) w := by kernel_rfl
theorem asked_2 (x0 x1 x2 x3 x4 x5 : Value) (w : World) : (Instr.index 68 (.agg #[x0, x1, x2, x3, x4, x5]) (.int .i64 2)).run Try.prog w = .ok (.agg #[x4, x5]) w := by kernel_rfl
theorem be_take_all (l : List UInt8) (h : l.length ≤ 4) : l.take 4 = l := List.take_of_length_le h

set_option maxRecDepth 100000 in
set_option maxHeartbeats 2000000 in
theorem read_s4 (A : Option Addr) (c : Nat) (l : List UInt8) (most : Nat) (w : World) (h : Rd w A c l) (hm : most ≤ 4294967295) (h4 : l.length < 4) :
    Calls Try.prog 26 #[.slice A l.length c, .int .u32 most] w fun e w' => e = .returned (.tuple #[.agg #[.int .u16 0, .slice none 0 0], .int .i64 0, .int .i64 7]) ∧ Below w.heap.size w w' := by
  have HR := Lib.hid h
  have hlc := h.len
  have HT := Lib.hid ((h.take0 (k := min 4 l.length) (by omega)).below (below_of3 w (.cells #[.slice A l.length c] 24) (.cells #[.int .u32 most] 22) (.cells #[.int .u16 0, .slice none 0 0] 39)))
  clear h
  have hmf : ∀ (fn : Fn) (first cap : Array Value) (w : World), (Instr.makeFunc fn first cap).run Try.prog w = .ok (.func fn first cap) w := fun _ _ _ _ => rfl
  have i0 := asked_0
  have i1 := asked_1
  have i2 := asked_2
  obtain ⟨s, hs⟩ : ∃ s, Hid (be (l.take (min 4 l.length)) = s) := ⟨_, Lib.hid rfl⟩
  have HS := hs
  go_enter Try.func26, Try.ntmps26
  go_wp2_with (first
    | (go_at_call 32; refine (tell_n HT.out (by simp; try omega) (by omega)).mono ?_; rintro e w1 ⟨rfl, rfl⟩; rw [HS.out])
    | (go_at_call 34; refine (read2_calls _ _ s most _ (by go_simp) (by go_simp) hm).mono ?_; rintro e w1 ⟨rfl, rfl⟩; rw [HO.out])
    | (go_at_call 35; refine (read3_calls _ _ ⟨w.heap.size, 0, none⟩ A c l.length l x4 s _ (by go_simp) (by go_simp) (by go_simp) (HR.out.below (by repeat (first | exact Below.refl _ _ | refine Below.drew ?_ | refine pw_drewN ?_ _ | refine Below.alloc ?_ (by simp; try omega) _))) rfl (by omega) HX4.out).mono ?_; rintro e w1 ⟨m3, rfl, rfl⟩; rw [HP.out])
    | (go_at_call 36; refine (read4_calls _ A c l.length l x5 _ (by go_simp) (HR.out.below (by repeat (first | exact Below.refl _ _ | refine Below.drew ?_ | refine pw_drewN ?_ _ | refine Below.alloc ?_ (by simp; try omega) _))) rfl (by omega) HX5.out).mono ?_; rintro e w1 ⟨rfl, rfl⟩; rw [HZ.out]))
  refine wp_loop_rounds 1 ?_
  rw [rounds_succ]
  go_wp2_with (first
    | (go_at_call 32; refine (tell_n HT.out (by simp; try omega) (by omega)).mono ?_; rintro e w1 ⟨rfl, rfl⟩; rw [HS.out])
    | (go_at_call 34; refine (read2_calls _ _ s most _ (by go_simp) (by go_simp) hm).mono ?_; rintro e w1 ⟨rfl, rfl⟩; rw [HO.out])
    | (go_at_call 35; refine (read3_calls _ _ ⟨w.heap.size, 0, none⟩ A c l.length l x4 s _ (by go_simp) (by go_simp) (by go_simp) (HR.out.below (by repeat (first | exact Below.refl _ _ | refine Below.drew ?_ | refine pw_drewN ?_ _ | refine Below.alloc ?_ (by simp; try omega) _))) rfl (by omega) HX4.out).mono ?_; rintro e w1 ⟨m3, rfl, rfl⟩; rw [HP.out])
    | (go_at_call 36; refine (read4_calls _ A c l.length l x5 _ (by go_simp) (HR.out.below (by repeat (first | exact Below.refl _ _ | refine Below.drew ?_ | refine pw_drewN ?_ _ | refine Below.alloc ?_ (by simp; try omega) _))) rfl (by omega) HX5.out).mono ?_; rintro e w1 ⟨rfl, rfl⟩; rw [HZ.out]))
  refine bodyPost_ret (v := .tuple #[.agg #[.int .u16 0, .slice none 0 0], .int .i64 0, .int .i64 7]) (by simp [results, Try.results26, go_sem]) rfl ⟨rfl, ?_⟩
  repeat (first | exact Below.refl _ _ | refine Below.drew ?_ | refine pw_drewN ?_ _ | refine Below.setCell ?_ (by simp; try omega) _ | refine Below.alloc ?_ (by simp; try omega) _)

set_option maxRecDepth 100000 in
set_option maxHeartbeats 2000000 in
theorem read_f4a (A : Option Addr) (c : Nat) (l : List UInt8) (most : Nat) (w : World) (h : Rd w A c l) (hm : most ≤ 4294967295) (h4 : l.length = 4) (ho : okSize (be (l.take 4)) most = false) :
    Calls Try.prog 26 #[.slice A l.length c, .int .u32 most] w fun e w' => e = .returned (.tuple #[.agg #[.int .u16 0, .slice none 0 0], .int .i64 0, .int .i64 6]) ∧ Below w.heap.size w w' := by
  have HR := Lib.hid h
  have hlc := h.len
  have HT := Lib.hid ((h.take0 (k := min 4 l.length) (by omega)).below (below_of3 w (.cells #[.slice A l.length c] 24) (.cells #[.int .u32 most] 22) (.cells #[.int .u16 0, .slice none 0 0] 39)))
  clear h
  have hmf : ∀ (fn : Fn) (first cap : Array Value) (w : World), (Instr.makeFunc fn first cap).run Try.prog w = .ok (.func fn first cap) w := fun _ _ _ _ => rfl
  have i0 := asked_0
  have i1 := asked_1
  have i2 := asked_2
  have h4' : 4 ≤ l.length := by omega
  have h5' : l.length < 5 := by omega
  clear h4
  have hs0 : be (l.take (min 4 l.length)) = be (l.take 4) := by rw [Nat.min_eq_left (by omega)]
  obtain ⟨s, hs⟩ : ∃ s, be (l.take 4) = s := ⟨_, rfl⟩
  rw [hs] at hs0 ho
  have HS := Lib.hid hs0
  have HO := Lib.hid ho
  clear hs hs0 ho
  go_enter Try.func26, Try.ntmps26
  go_wp2_with (first
    | (go_at_call 32; refine (tell_n HT.out (by simp; try omega) (by omega)).mono ?_; rintro e w1 ⟨rfl, rfl⟩; rw [HS.out])
    | (go_at_call 34; refine (read2_calls _ _ s most _ (by go_simp) (by go_simp) hm).mono ?_; rintro e w1 ⟨rfl, rfl⟩; rw [HO.out])
    | (go_at_call 35; refine (read3_calls _ _ ⟨w.heap.size, 0, none⟩ A c l.length l x4 s _ (by go_simp) (by go_simp) (by go_simp) (HR.out.below (by repeat (first | exact Below.refl _ _ | refine Below.drew ?_ | refine pw_drewN ?_ _ | refine Below.alloc ?_ (by simp; try omega) _))) rfl (by omega) HX4.out).mono ?_; rintro e w1 ⟨m3, rfl, rfl⟩; rw [HP.out])
    | (go_at_call 36; refine (read4_calls _ A c l.length l x5 _ (by go_simp) (HR.out.below (by repeat (first | exact Below.refl _ _ | refine Below.drew ?_ | refine pw_drewN ?_ _ | refine Below.alloc ?_ (by simp; try omega) _))) rfl (by omega) HX5.out).mono ?_; rintro e w1 ⟨rfl, rfl⟩; rw [HZ.out]))
  refine wp_loop_rounds 1 ?_
  rw [rounds_succ]
  go_wp2_with (first
    | (go_at_call 32; refine (tell_n HT.out (by simp; try omega) (by omega)).mono ?_; rintro e w1 ⟨rfl, rfl⟩; rw [HS.out])
    | (go_at_call 34; refine (read2_calls _ _ s most _ (by go_simp) (by go_simp) hm).mono ?_; rintro e w1 ⟨rfl, rfl⟩; rw [HO.out])
    | (go_at_call 35; refine (read3_calls _ _ ⟨w.heap.size, 0, none⟩ A c l.length l x4 s _ (by go_simp) (by go_simp) (by go_simp) (HR.out.below (by repeat (first | exact Below.refl _ _ | refine Below.drew ?_ | refine pw_drewN ?_ _ | refine Below.alloc ?_ (by simp; try omega) _))) rfl (by omega) HX4.out).mono ?_; rintro e w1 ⟨m3, rfl, rfl⟩; rw [HP.out])
    | (go_at_call 36; refine (read4_calls _ A c l.length l x5 _ (by go_simp) (HR.out.below (by repeat (first | exact Below.refl _ _ | refine Below.drew ?_ | refine pw_drewN ?_ _ | refine Below.alloc ?_ (by simp; try omega) _))) rfl (by omega) HX5.out).mono ?_; rintro e w1 ⟨rfl, rfl⟩; rw [HZ.out]))
  refine bodyPost_ret (v := .tuple #[.agg #[.int .u16 0, .slice none 0 0], .int .i64 0, .int .i64 6]) (by simp [results, Try.results26, go_sem]) rfl ⟨rfl, ?_⟩
  repeat (first | exact Below.refl _ _ | refine Below.drew ?_ | refine pw_drewN ?_ _ | refine Below.setCell ?_ (by simp; try omega) _ | refine Below.alloc ?_ (by simp; try omega) _)

set_option maxRecDepth 100000 in
set_option maxHeartbeats 2000000 in
theorem read_f4 (A : Option Addr) (c : Nat) (l : List UInt8) (most : Nat) (w : World) (h : Rd w A c l) (hm : most ≤ 4294967295) (h4 : 5 ≤ l.length) (ho : okSize (be (l.take 4)) most = false) :
    Calls Try.prog 26 #[.slice A l.length c, .int .u32 most] w fun e w' => e = .returned (.tuple #[.agg #[.int .u16 0, .slice none 0 0], .int .i64 0, .int .i64 6]) ∧ Below w.heap.size w w' := by
  have HR := Lib.hid h
  have hlc := h.len
  have HT := Lib.hid ((h.take0 (k := min 4 l.length) (by omega)).below (below_of3 w (.cells #[.slice A l.length c] 24) (.cells #[.int .u32 most] 22) (.cells #[.int .u16 0, .slice none 0 0] 39)))
  clear h
  have hmf : ∀ (fn : Fn) (first cap : Array Value) (w : World), (Instr.makeFunc fn first cap).run Try.prog w = .ok (.func fn first cap) w := fun _ _ _ _ => rfl
  have i0 := asked_0
  have i1 := asked_1
  have i2 := asked_2
  have hs0 : be (l.take (min 4 l.length)) = be (l.take 4) := by rw [Nat.min_eq_left (by omega)]
  obtain ⟨s, hs⟩ : ∃ s, be (l.take 4) = s := ⟨_, rfl⟩
  rw [hs] at hs0 ho
  have HS := Lib.hid hs0
  have HO := Lib.hid ho
  clear hs hs0 ho
  go_enter Try.func26, Try.ntmps26
  go_wp2_with (first
    | (go_at_call 32; refine (tell_n HT.out (by simp; try omega) (by omega)).mono ?_; rintro e w1 ⟨rfl, rfl⟩; rw [HS.out])
    | (go_at_call 34; refine (read2_calls _ _ s most _ (by go_simp) (by go_simp) hm).mono ?_; rintro e w1 ⟨rfl, rfl⟩; rw [HO.out])
    | (go_at_call 35; refine (read3_calls _ _ ⟨w.heap.size, 0, none⟩ A c l.length l x4 s _ (by go_simp) (by go_simp) (by go_simp) (HR.out.below (by repeat (first | exact Below.refl _ _ | refine Below.drew ?_ | refine pw_drewN ?_ _ | refine Below.alloc ?_ (by simp; try omega) _))) rfl (by omega) HX4.out).mono ?_; rintro e w1 ⟨m3, rfl, rfl⟩; rw [HP.out])
    | (go_at_call 36; refine (read4_calls _ A c l.length l x5 _ (by go_simp) (HR.out.below (by repeat (first | exact Below.refl _ _ | refine Below.drew ?_ | refine pw_drewN ?_ _ | refine Below.alloc ?_ (by simp; try omega) _))) rfl (by omega) HX5.out).mono ?_; rintro e w1 ⟨rfl, rfl⟩; rw [HZ.out]))
  refine wp_loop_rounds 1 ?_
  rw [rounds_succ]
  go_wp2_with (first
    | (go_at_call 32; refine (tell_n HT.out (by simp; try omega) (by omega)).mono ?_; rintro e w1 ⟨rfl, rfl⟩; rw [HS.out])
    | (go_at_call 34; refine (read2_calls _ _ s most _ (by go_simp) (by go_simp) hm).mono ?_; rintro e w1 ⟨rfl, rfl⟩; rw [HO.out])
    | (go_at_call 35; refine (read3_calls _ _ ⟨w.heap.size, 0, none⟩ A c l.length l x4 s _ (by go_simp) (by go_simp) (by go_simp) (HR.out.below (by repeat (first | exact Below.refl _ _ | refine Below.drew ?_ | refine pw_drewN ?_ _ | refine Below.alloc ?_ (by simp; try omega) _))) rfl (by omega) HX4.out).mono ?_; rintro e w1 ⟨m3, rfl, rfl⟩; rw [HP.out])
    | (go_at_call 36; refine (read4_calls _ A c l.length l x5 _ (by go_simp) (HR.out.below (by repeat (first | exact Below.refl _ _ | refine Below.drew ?_ | refine pw_drewN ?_ _ | refine Below.alloc ?_ (by simp; try omega) _))) rfl (by omega) HX5.out).mono ?_; rintro e w1 ⟨rfl, rfl⟩; rw [HZ.out]))
  refine bodyPost_ret (v := .tuple #[.agg #[.int .u16 0, .slice none 0 0], .int .i64 0, .int .i64 6]) (by simp [results, Try.results26, go_sem]) rfl ⟨rfl, ?_⟩
  repeat (first | exact Below.refl _ _ | refine Below.drew ?_ | refine pw_drewN ?_ _ | refine Below.setCell ?_ (by simp; try omega) _ | refine Below.alloc ?_ (by simp; try omega) _)

set_option maxRecDepth 100000 in
set_option maxHeartbeats 2000000 in
theorem read_s5 (A : Option Addr) (c : Nat) (l : List UInt8) (most : Nat) (w : World) (h : Rd w A c l) (hm : most ≤ 4294967295) (h4 : l.length = 4) (ho : okSize (be (l.take 4)) most = true) :
    Calls Try.prog 26 #[.slice A l.length c, .int .u32 most] w fun e w' => e = .returned (.tuple #[.agg #[.int .u16 0, .slice none 0 0], .int .i64 0, .int .i64 7]) ∧ Below w.heap.size w w' := by
  have HR := Lib.hid h
  have hlc := h.len
  have HT := Lib.hid ((h.take0 (k := min 4 l.length) (by omega)).below (below_of3 w (.cells #[.slice A l.length c] 24) (.cells #[.int .u32 most] 22) (.cells #[.int .u16 0, .slice none 0 0] 39)))
  clear h
  have hmf : ∀ (fn : Fn) (first cap : Array Value) (w : World), (Instr.makeFunc fn first cap).run Try.prog w = .ok (.func fn first cap) w := fun _ _ _ _ => rfl
  have i0 := asked_0
  have i1 := asked_1
  have i2 := asked_2
  have h4' : 4 ≤ l.length := by omega
  have h5' : l.length < 5 := by omega
  clear h4
  have hs0 : be (l.take (min 4 l.length)) = be (l.take 4) := by rw [Nat.min_eq_left (by omega)]
  obtain ⟨s, hs⟩ : ∃ s, be (l.take 4) = s := ⟨_, rfl⟩
  rw [hs] at hs0 ho
  have HS := Lib.hid hs0
  have HO := Lib.hid ho
  clear hs hs0 ho
  go_enter Try.func26, Try.ntmps26
  go_wp2_with (first
    | (go_at_call 32; refine (tell_n HT.out (by simp; try omega) (by omega)).mono ?_; rintro e w1 ⟨rfl, rfl⟩; rw [HS.out])
    | (go_at_call 34; refine (read2_calls _ _ s most _ (by go_simp) (by go_simp) hm).mono ?_; rintro e w1 ⟨rfl, rfl⟩; rw [HO.out])
    | (go_at_call 35; refine (read3_calls _ _ ⟨w.heap.size, 0, none⟩ A c l.length l x4 s _ (by go_simp) (by go_simp) (by go_simp) (HR.out.below (by repeat (first | exact Below.refl _ _ | refine Below.drew ?_ | refine pw_drewN ?_ _ | refine Below.alloc ?_ (by simp; try omega) _))) rfl (by omega) HX4.out).mono ?_; rintro e w1 ⟨m3, rfl, rfl⟩; rw [HP.out])
    | (go_at_call 36; refine (read4_calls _ A c l.length l x5 _ (by go_simp) (HR.out.below (by repeat (first | exact Below.refl _ _ | refine Below.drew ?_ | refine pw_drewN ?_ _ | refine Below.alloc ?_ (by simp; try omega) _))) rfl (by omega) HX5.out).mono ?_; rintro e w1 ⟨rfl, rfl⟩; rw [HZ.out]))
  refine wp_loop_rounds 2 ?_
  rw [rounds_succ]
  go_wp2_with (first
    | (go_at_call 32; refine (tell_n HT.out (by simp; try omega) (by omega)).mono ?_; rintro e w1 ⟨rfl, rfl⟩; rw [HS.out])
    | (go_at_call 34; refine (read2_calls _ _ s most _ (by go_simp) (by go_simp) hm).mono ?_; rintro e w1 ⟨rfl, rfl⟩; rw [HO.out])
    | (go_at_call 35; refine (read3_calls _ _ ⟨w.heap.size, 0, none⟩ A c l.length l x4 s _ (by go_simp) (by go_simp) (by go_simp) (HR.out.below (by repeat (first | exact Below.refl _ _ | refine Below.drew ?_ | refine pw_drewN ?_ _ | refine Below.alloc ?_ (by simp; try omega) _))) rfl (by omega) HX4.out).mono ?_; rintro e w1 ⟨m3, rfl, rfl⟩; rw [HP.out])
    | (go_at_call 36; refine (read4_calls _ A c l.length l x5 _ (by go_simp) (HR.out.below (by repeat (first | exact Below.refl _ _ | refine Below.drew ?_ | refine pw_drewN ?_ _ | refine Below.alloc ?_ (by simp; try omega) _))) rfl (by omega) HX5.out).mono ?_; rintro e w1 ⟨rfl, rfl⟩; rw [HZ.out]))
  rw [rounds_succ]
  go_wp2_with (first
    | (go_at_call 32; refine (tell_n HT.out (by simp; try omega) (by omega)).mono ?_; rintro e w1 ⟨rfl, rfl⟩; rw [HS.out])
    | (go_at_call 34; refine (read2_calls _ _ s most _ (by go_simp) (by go_simp) hm).mono ?_; rintro e w1 ⟨rfl, rfl⟩; rw [HO.out])
    | (go_at_call 35; refine (read3_calls _ _ ⟨w.heap.size, 0, none⟩ A c l.length l x4 s _ (by go_simp) (by go_simp) (by go_simp) (HR.out.below (by repeat (first | exact Below.refl _ _ | refine Below.drew ?_ | refine pw_drewN ?_ _ | refine Below.alloc ?_ (by simp; try omega) _))) rfl (by omega) HX4.out).mono ?_; rintro e w1 ⟨m3, rfl, rfl⟩; rw [HP.out])
    | (go_at_call 36; refine (read4_calls _ A c l.length l x5 _ (by go_simp) (HR.out.below (by repeat (first | exact Below.refl _ _ | refine Below.drew ?_ | refine pw_drewN ?_ _ | refine Below.alloc ?_ (by simp; try omega) _))) rfl (by omega) HX5.out).mono ?_; rintro e w1 ⟨rfl, rfl⟩; rw [HZ.out]))
  refine bodyPost_ret (v := .tuple #[.agg #[.int .u16 0, .slice none 0 0], .int .i64 0, .int .i64 7]) (by simp [results, Try.results26, go_sem]) rfl ⟨rfl, ?_⟩
  repeat (first | exact Below.refl _ _ | refine Below.drew ?_ | refine pw_drewN ?_ _ | refine Below.setCell ?_ (by simp; try omega) _ | refine Below.alloc ?_ (by simp; try omega) _)

set_option maxRecDepth 100000 in
set_option maxHeartbeats 2000000 in
theorem read_f5 (A : Option Addr) (c : Nat) (l : List UInt8) (most : Nat) (w : World) (h : Rd w A c l) (hm : most ≤ 4294967295) (h4 : 5 ≤ l.length) (ho : okSize (be (l.take 4)) most = true) (hp : okSize (4 * ((l[4]?).getD 0).toNat) (be (l.take 4)) = false) :
    Calls Try.prog 26 #[.slice A l.length c, .int .u32 most] w fun e w' => e = .returned (.tuple #[.agg #[.int .u16 0, .slice none 0 0], .int .i64 0, .int .i64 6]) ∧ Below w.heap.size w w' := by
  have HR := Lib.hid h
  have hlc := h.len
  have HT := Lib.hid ((h.take0 (k := min 4 l.length) (by omega)).below (below_of3 w (.cells #[.slice A l.length c] 24) (.cells #[.int .u32 most] 22) (.cells #[.int .u16 0, .slice none 0 0] 39)))
  clear h
  have hmf : ∀ (fn : Fn) (first cap : Array Value) (w : World), (Instr.makeFunc fn first cap).run Try.prog w = .ok (.func fn first cap) w := fun _ _ _ _ => rfl
  have i0 := asked_0
  have i1 := asked_1
  have i2 := asked_2
  have hs0 : be (l.take (min 4 l.length)) = be (l.take 4) := by rw [Nat.min_eq_left (by omega)]
  obtain ⟨s, hs⟩ : ∃ s, be (l.take 4) = s := ⟨_, rfl⟩
  rw [hs] at hs0 ho hp
  have HS := Lib.hid hs0
  have HO := Lib.hid ho
  clear hs hs0 ho
  obtain ⟨x4, hx4⟩ : ∃ x, l[4]? = some x := ⟨_, List.getElem?_eq_getElem (by omega)⟩
  rw [hx4, Option.getD_some] at hp
  have HX4 := Lib.hid hx4
  have HP := Lib.hid hp
  clear hx4 hp
  go_enter Try.func26, Try.ntmps26
  go_wp2_with (first
    | (go_at_call 32; refine (tell_n HT.out (by simp; try omega) (by omega)).mono ?_; rintro e w1 ⟨rfl, rfl⟩; rw [HS.out])
    | (go_at_call 34; refine (read2_calls _ _ s most _ (by go_simp) (by go_simp) hm).mono ?_; rintro e w1 ⟨rfl, rfl⟩; rw [HO.out])
    | (go_at_call 35; refine (read3_calls _ _ ⟨w.heap.size, 0, none⟩ A c l.length l x4 s _ (by go_simp) (by go_simp) (by go_simp) (HR.out.below (by repeat (first | exact Below.refl _ _ | refine Below.drew ?_ | refine pw_drewN ?_ _ | refine Below.alloc ?_ (by simp; try omega) _))) rfl (by omega) HX4.out).mono ?_; rintro e w1 ⟨m3, rfl, rfl⟩; rw [HP.out])
    | (go_at_call 36; refine (read4_calls _ A c l.length l x5 _ (by go_simp) (HR.out.below (by repeat (first | exact Below.refl _ _ | refine Below.drew ?_ | refine pw_drewN ?_ _ | refine Below.alloc ?_ (by simp; try omega) _))) rfl (by omega) HX5.out).mono ?_; rintro e w1 ⟨rfl, rfl⟩; rw [HZ.out]))
  refine wp_loop_rounds 2 ?_
  rw [rounds_succ]
  go_wp2_with (first
    | (go_at_call 32; refine (tell_n HT.out (by simp; try omega) (by omega)).mono ?_; rintro e w1 ⟨rfl, rfl⟩; rw [HS.out])
    | (go_at_call 34; refine (read2_calls _ _ s most _ (by go_simp) (by go_simp) hm).mono ?_; rintro e w1 ⟨rfl, rfl⟩; rw [HO.out])
    | (go_at_call 35; refine (read3_calls _ _ ⟨w.heap.size, 0, none⟩ A c l.length l x4 s _ (by go_simp) (by go_simp) (by go_simp) (HR.out.below (by repeat (first | exact Below.refl _ _ | refine Below.drew ?_ | refine pw_drewN ?_ _ | refine Below.alloc ?_ (by simp; try omega) _))) rfl (by omega) HX4.out).mono ?_; rintro e w1 ⟨m3, rfl, rfl⟩; rw [HP.out])
    | (go_at_call 36; refine (read4_calls _ A c l.length l x5 _ (by go_simp) (HR.out.below (by repeat (first | exact Below.refl _ _ | refine Below.drew ?_ | refine pw_drewN ?_ _ | refine Below.alloc ?_ (by simp; try omega) _))) rfl (by omega) HX5.out).mono ?_; rintro e w1 ⟨rfl, rfl⟩; rw [HZ.out]))
  rw [rounds_succ]
  go_wp2_with (first
    | (go_at_call 32; refine (tell_n HT.out (by simp; try omega) (by omega)).mono ?_; rintro e w1 ⟨rfl, rfl⟩; rw [HS.out])
    | (go_at_call 34; refine (read2_calls _ _ s most _ (by go_simp) (by go_simp) hm).mono ?_; rintro e w1 ⟨rfl, rfl⟩; rw [HO.out])
    | (go_at_call 35; refine (read3_calls _ _ ⟨w.heap.size, 0, none⟩ A c l.length l x4 s _ (by go_simp) (by go_simp) (by go_simp) (HR.out.below (by repeat (first | exact Below.refl _ _ | refine Below.drew ?_ | refine pw_drewN ?_ _ | refine Below.alloc ?_ (by simp; try omega) _))) rfl (by omega) HX4.out).mono ?_; rintro e w1 ⟨m3, rfl, rfl⟩; rw [HP.out])
    | (go_at_call 36; refine (read4_calls _ A c l.length l x5 _ (by go_simp) (HR.out.below (by repeat (first | exact Below.refl _ _ | refine Below.drew ?_ | refine pw_drewN ?_ _ | refine Below.alloc ?_ (by simp; try omega) _))) rfl (by omega) HX5.out).mono ?_; rintro e w1 ⟨rfl, rfl⟩; rw [HZ.out]))
  refine bodyPost_ret (v := .tuple #[.agg #[.int .u16 0, .slice none 0 0], .int .i64 0, .int .i64 6]) (by simp [results, Try.results26, go_sem]) rfl ⟨rfl, ?_⟩
  repeat (first | exact Below.refl _ _ | refine Below.drew ?_ | refine pw_drewN ?_ _ | refine Below.setCell ?_ (by simp; try omega) _ | refine Below.alloc ?_ (by simp; try omega) _)

set_option maxRecDepth 100000 in
set_option maxHeartbeats 2000000 in
theorem read_s6 (A : Option Addr) (c : Nat) (l : List UInt8) (most : Nat) (w : World) (h : Rd w A c l) (hm : most ≤ 4294967295) (h4 : l.length = 5) (ho : okSize (be (l.take 4)) most = true) (hp : okSize (4 * ((l[4]?).getD 0).toNat) (be (l.take 4)) = true) :
    Calls Try.prog 26 #[.slice A l.length c, .int .u32 most] w fun e w' => e = .returned (.tuple #[.agg #[.int .u16 0, .slice none 0 0], .int .i64 0, .int .i64 7]) ∧ Below w.heap.size w w' := by
  have HR := Lib.hid h
  have hlc := h.len
  have HT := Lib.hid ((h.take0 (k := min 4 l.length) (by omega)).below (below_of3 w (.cells #[.slice A l.length c] 24) (.cells #[.int .u32 most] 22) (.cells #[.int .u16 0, .slice none 0 0] 39)))
  clear h
  have hmf : ∀ (fn : Fn) (first cap : Array Value) (w : World), (Instr.makeFunc fn first cap).run Try.prog w = .ok (.func fn first cap) w := fun _ _ _ _ => rfl
  have i0 := asked_0
  have i1 := asked_1
  have i2 := asked_2
  have h4' : 5 ≤ l.length := by omega
  have h5' : l.length < 6 := by omega
  clear h4
  have hs0 : be (l.take (min 4 l.length)) = be (l.take 4) := by rw [Nat.min_eq_left (by omega)]
  obtain ⟨s, hs⟩ : ∃ s, be (l.take 4) = s := ⟨_, rfl⟩
  rw [hs] at hs0 ho hp
  have HS := Lib.hid hs0
  have HO := Lib.hid ho
  clear hs hs0 ho
  obtain ⟨x4, hx4⟩ : ∃ x, l[4]? = some x := ⟨_, List.getElem?_eq_getElem (by omega)⟩
  rw [hx4, Option.getD_some] at hp
  have HX4 := Lib.hid hx4
  have HP := Lib.hid hp
  clear hx4 hp
  go_enter Try.func26, Try.ntmps26
  go_wp2_with (first
    | (go_at_call 32; refine (tell_n HT.out (by simp; try omega) (by omega)).mono ?_; rintro e w1 ⟨rfl, rfl⟩; rw [HS.out])
    | (go_at_call 34; refine (read2_calls _ _ s most _ (by go_simp) (by go_simp) hm).mono ?_; rintro e w1 ⟨rfl, rfl⟩; rw [HO.out])
    | (go_at_call 35; refine (read3_calls _ _ ⟨w.heap.size, 0, none⟩ A c l.length l x4 s _ (by go_simp) (by go_simp) (by go_simp) (HR.out.below (by repeat (first | exact Below.refl _ _ | refine Below.drew ?_ | refine pw_drewN ?_ _ | refine Below.alloc ?_ (by simp; try omega) _))) rfl (by omega) HX4.out).mono ?_; rintro e w1 ⟨m3, rfl, rfl⟩; rw [HP.out])
    | (go_at_call 36; refine (read4_calls _ A c l.length l x5 _ (by go_simp) (HR.out.below (by repeat (first | exact Below.refl _ _ | refine Below.drew ?_ | refine pw_drewN ?_ _ | refine Below.alloc ?_ (by simp; try omega) _))) rfl (by omega) HX5.out).mono ?_; rintro e w1 ⟨rfl, rfl⟩; rw [HZ.out]))
  refine wp_loop_rounds 3 ?_
  rw [rounds_succ]
  go_wp2_with (first
    | (go_at_call 32; refine (tell_n HT.out (by simp; try omega) (by omega)).mono ?_; rintro e w1 ⟨rfl, rfl⟩; rw [HS.out])
    | (go_at_call 34; refine (read2_calls _ _ s most _ (by go_simp) (by go_simp) hm).mono ?_; rintro e w1 ⟨rfl, rfl⟩; rw [HO.out])
    | (go_at_call 35; refine (read3_calls _ _ ⟨w.heap.size, 0, none⟩ A c l.length l x4 s _ (by go_simp) (by go_simp) (by go_simp) (HR.out.below (by repeat (first | exact Below.refl _ _ | refine Below.drew ?_ | refine pw_drewN ?_ _ | refine Below.alloc ?_ (by simp; try omega) _))) rfl (by omega) HX4.out).mono ?_; rintro e w1 ⟨m3, rfl, rfl⟩; rw [HP.out])
    | (go_at_call 36; refine (read4_calls _ A c l.length l x5 _ (by go_simp) (HR.out.below (by repeat (first | exact Below.refl _ _ | refine Below.drew ?_ | refine pw_drewN ?_ _ | refine Below.alloc ?_ (by simp; try omega) _))) rfl (by omega) HX5.out).mono ?_; rintro e w1 ⟨rfl, rfl⟩; rw [HZ.out]))
  rw [rounds_succ]
  go_wp2_with (first
    | (go_at_call 32; refine (tell_n HT.out (by simp; try omega) (by omega)).mono ?_; rintro e w1 ⟨rfl, rfl⟩; rw [HS.out])
    | (go_at_call 34; refine (read2_calls _ _ s most _ (by go_simp) (by go_simp) hm).mono ?_; rintro e w1 ⟨rfl, rfl⟩; rw [HO.out])
    | (go_at_call 35; refine (read3_calls _ _ ⟨w.heap.size, 0, none⟩ A c l.length l x4 s _ (by go_simp) (by go_simp) (by go_simp) (HR.out.below (by repeat (first | exact Below.refl _ _ | refine Below.drew ?_ | refine pw_drewN ?_ _ | refine Below.alloc ?_ (by simp; try omega) _))) rfl (by omega) HX4.out).mono ?_; rintro e w1 ⟨m3, rfl, rfl⟩; rw [HP.out])
    | (go_at_call 36; refine (read4_calls _ A c l.length l x5 _ (by go_simp) (HR.out.below (by repeat (first | exact Below.refl _ _ | refine Below.drew ?_ | refine pw_drewN ?_ _ | refine Below.alloc ?_ (by simp; try omega) _))) rfl (by omega) HX5.out).mono ?_; rintro e w1 ⟨rfl, rfl⟩; rw [HZ.out]))
  rw [rounds_succ]
  go_wp2_with (first
    | (go_at_call 32; refine (tell_n HT.out (by simp; try omega) (by omega)).mono ?_; rintro e w1 ⟨rfl, rfl⟩; rw [HS.out])
    | (go_at_call 34; refine (read2_calls _ _ s most _ (by go_simp) (by go_simp) hm).mono ?_; rintro e w1 ⟨rfl, rfl⟩; rw [HO.out])
    | (go_at_call 35; refine (read3_calls _ _ ⟨w.heap.size, 0, none⟩ A c l.length l x4 s _ (by go_simp) (by go_simp) (by go_simp) (HR.out.below (by repeat (first | exact Below.refl _ _ | refine Below.drew ?_ | refine pw_drewN ?_ _ | refine Below.alloc ?_ (by simp; try omega) _))) rfl (by omega) HX4.out).mono ?_; rintro e w1 ⟨m3, rfl, rfl⟩; rw [HP.out])
    | (go_at_call 36; refine (read4_calls _ A c l.length l x5 _ (by go_simp) (HR.out.below (by repeat (first | exact Below.refl _ _ | refine Below.drew ?_ | refine pw_drewN ?_ _ | refine Below.alloc ?_ (by simp; try omega) _))) rfl (by omega) HX5.out).mono ?_; rintro e w1 ⟨rfl, rfl⟩; rw [HZ.out]))
  refine bodyPost_ret (v := .tuple #[.agg #[.int .u16 0, .slice none 0 0], .int .i64 0, .int .i64 7]) (by simp [results, Try.results26, go_sem]) rfl ⟨rfl, ?_⟩
  repeat (first | exact Below.refl _ _ | refine Below.drew ?_ | refine pw_drewN ?_ _ | refine Below.setCell ?_ (by simp; try omega) _ | refine Below.alloc ?_ (by simp; try omega) _)

set_option maxRecDepth 100000 in
set_option maxHeartbeats 2000000 in
theorem read_f6 (A : Option Addr) (c : Nat) (l : List UInt8) (most : Nat) (w : World) (h : Rd w A c l) (hm : most ≤ 4294967295) (h4 : 6 ≤ l.length) (ho : okSize (be (l.take 4)) most = true) (hp : okSize (4 * ((l[4]?).getD 0).toNat) (be (l.take 4)) = true) (hz : (((((l[5]?).getD 0).toNat : Nat) : Int) == 0) = false) :
    Calls Try.prog 26 #[.slice A l.length c, .int .u32 most] w fun e w' => e = .returned (.tuple #[.agg #[.int .u16 0, .slice none 0 0], .int .i64 0, .int .i64 6]) ∧ Below w.heap.size w w' := by
  have HR := Lib.hid h
  have hlc := h.len
  have HT := Lib.hid ((h.take0 (k := min 4 l.length) (by omega)).below (below_of3 w (.cells #[.slice A l.length c] 24) (.cells #[.int .u32 most] 22) (.cells #[.int .u16 0, .slice none 0 0] 39)))
  clear h
  have hmf : ∀ (fn : Fn) (first cap : Array Value) (w : World), (Instr.makeFunc fn first cap).run Try.prog w = .ok (.func fn first cap) w := fun _ _ _ _ => rfl
  have i0 := asked_0
  have i1 := asked_1
  have i2 := asked_2
  have hs0 : be (l.take (min 4 l.length)) = be (l.take 4) := by rw [Nat.min_eq_left (by omega)]
  obtain ⟨s, hs⟩ : ∃ s, be (l.take 4) = s := ⟨_, rfl⟩
  rw [hs] at hs0 ho hp
  have HS := Lib.hid hs0
  have HO := Lib.hid ho
  clear hs hs0 ho
  obtain ⟨x4, hx4⟩ : ∃ x, l[4]? = some x := ⟨_, List.getElem?_eq_getElem (by omega)⟩
  rw [hx4, Option.getD_some] at hp
  have HX4 := Lib.hid hx4
  have HP := Lib.hid hp
  clear hx4 hp
  obtain ⟨x5, hx5⟩ : ∃ x, l[5]? = some x := ⟨_, List.getElem?_eq_getElem (by omega)⟩
  rw [hx5, Option.getD_some] at hz
  have HX5 := Lib.hid hx5
  have HZ := Lib.hid hz
  clear hx5 hz
  go_enter Try.func26, Try.ntmps26
  go_wp2_with (first
    | (go_at_call 32; refine (tell_n HT.out (by simp; try omega) (by omega)).mono ?_; rintro e w1 ⟨rfl, rfl⟩; rw [HS.out])
    | (go_at_call 34; refine (read2_calls _ _ s most _ (by go_simp) (by go_simp) hm).mono ?_; rintro e w1 ⟨rfl, rfl⟩; rw [HO.out])
    | (go_at_call 35; refine (read3_calls _ _ ⟨w.heap.size, 0, none⟩ A c l.length l x4 s _ (by go_simp) (by go_simp) (by go_simp) (HR.out.below (by repeat (first | exact Below.refl _ _ | refine Below.drew ?_ | refine pw_drewN ?_ _ | refine Below.alloc ?_ (by simp; try omega) _))) rfl (by omega) HX4.out).mono ?_; rintro e w1 ⟨m3, rfl, rfl⟩; rw [HP.out])
    | (go_at_call 36; refine (read4_calls _ A c l.length l x5 _ (by go_simp) (HR.out.below (by repeat (first | exact Below.refl _ _ | refine Below.drew ?_ | refine pw_drewN ?_ _ | refine Below.alloc ?_ (by simp; try omega) _))) rfl (by omega) HX5.out).mono ?_; rintro e w1 ⟨rfl, rfl⟩; rw [HZ.out]))
  refine wp_loop_rounds 3 ?_
  rw [rounds_succ]
  go_wp2_with (first
    | (go_at_call 32; refine (tell_n HT.out (by simp; try omega) (by omega)).mono ?_; rintro e w1 ⟨rfl, rfl⟩; rw [HS.out])
    | (go_at_call 34; refine (read2_calls _ _ s most _ (by go_simp) (by go_simp) hm).mono ?_; rintro e w1 ⟨rfl, rfl⟩; rw [HO.out])
    | (go_at_call 35; refine (read3_calls _ _ ⟨w.heap.size, 0, none⟩ A c l.length l x4 s _ (by go_simp) (by go_simp) (by go_simp) (HR.out.below (by repeat (first | exact Below.refl _ _ | refine Below.drew ?_ | refine pw_drewN ?_ _ | refine Below.alloc ?_ (by simp; try omega) _))) rfl (by omega) HX4.out).mono ?_; rintro e w1 ⟨m3, rfl, rfl⟩; rw [HP.out])
    | (go_at_call 36; refine (read4_calls _ A c l.length l x5 _ (by go_simp) (HR.out.below (by repeat (first | exact Below.refl _ _ | refine Below.drew ?_ | refine pw_drewN ?_ _ | refine Below.alloc ?_ (by simp; try omega) _))) rfl (by omega) HX5.out).mono ?_; rintro e w1 ⟨rfl, rfl⟩; rw [HZ.out]))
  rw [rounds_succ]
  go_wp2_with (first
    | (go_at_call 32; refine (tell_n HT.out (by simp; try omega) (by omega)).mono ?_; rintro e w1 ⟨rfl, rfl⟩; rw [HS.out])
    | (go_at_call 34; refine (read2_calls _ _ s most _ (by go_simp) (by go_simp) hm).mono ?_; rintro e w1 ⟨rfl, rfl⟩; rw [HO.out])
    | (go_at_call 35; refine (read3_calls _ _ ⟨w.heap.size, 0, none⟩ A c l.length l x4 s _ (by go_simp) (by go_simp) (by go_simp) (HR.out.below (by repeat (first | exact Below.refl _ _ | refine Below.drew ?_ | refine pw_drewN ?_ _ | refine Below.alloc ?_ (by simp; try omega) _))) rfl (by omega) HX4.out).mono ?_; rintro e w1 ⟨m3, rfl, rfl⟩; rw [HP.out])
    | (go_at_call 36; refine (read4_calls _ A c l.length l x5 _ (by go_simp) (HR.out.below (by repeat (first | exact Below.refl _ _ | refine Below.drew ?_ | refine pw_drewN ?_ _ | refine Below.alloc ?_ (by simp; try omega) _))) rfl (by omega) HX5.out).mono ?_; rintro e w1 ⟨rfl, rfl⟩; rw [HZ.out]))
  rw [rounds_succ]
  go_wp2_with (first
    | (go_at_call 32; refine (tell_n HT.out (by simp; try omega) (by omega)).mono ?_; rintro e w1 ⟨rfl, rfl⟩; rw [HS.out])
    | (go_at_call 34; refine (read2_calls _ _ s most _ (by go_simp) (by go_simp) hm).mono ?_; rintro e w1 ⟨rfl, rfl⟩; rw [HO.out])
    | (go_at_call 35; refine (read3_calls _ _ ⟨w.heap.size, 0, none⟩ A c l.length l x4 s _ (by go_simp) (by go_simp) (by go_simp) (HR.out.below (by repeat (first | exact Below.refl _ _ | refine Below.drew ?_ | refine pw_drewN ?_ _ | refine Below.alloc ?_ (by simp; try omega) _))) rfl (by omega) HX4.out).mono ?_; rintro e w1 ⟨m3, rfl, rfl⟩; rw [HP.out])
    | (go_at_call 36; refine (read4_calls _ A c l.length l x5 _ (by go_simp) (HR.out.below (by repeat (first | exact Below.refl _ _ | refine Below.drew ?_ | refine pw_drewN ?_ _ | refine Below.alloc ?_ (by simp; try omega) _))) rfl (by omega) HX5.out).mono ?_; rintro e w1 ⟨rfl, rfl⟩; rw [HZ.out]))
  refine bodyPost_ret (v := .tuple #[.agg #[.int .u16 0, .slice none 0 0], .int .i64 0, .int .i64 6]) (by simp [results, Try.results26, go_sem]) rfl ⟨rfl, ?_⟩
  repeat (first | exact Below.refl _ _ | refine Below.drew ?_ | refine pw_drewN ?_ _ | refine Below.setCell ?_ (by simp; try omega) _ | refine Below.alloc ?_ (by simp; try omega) _)

set_option maxRecDepth 100000 in
set_option maxHeartbeats 2000000 in
theorem read_sl (A : Option Addr) (c : Nat) (l : List UInt8) (most : Nat) (w : World) (h : Rd w A c l) (hm : most ≤ 4294967295) (h4 : 6 ≤ l.length) (ho : okSize (be (l.take 4)) most = true) (hp : okSize (4 * ((l[4]?).getD 0).toNat) (be (l.take 4)) = true) (hz : (((((l[5]?).getD 0).toNat : Nat) : Int) == 0) = true) (hl : l.length < be (l.take 4)) :
    Calls Try.prog 26 #[.slice A l.length c, .int .u32 most] w fun e w' => e = .returned (.tuple #[.agg #[.int .u16 0, .slice none 0 0], .int .i64 0, .int .i64 7]) ∧ Below w.heap.size w w' := by
  have HR := Lib.hid h
  have hlc := h.len
  have HT := Lib.hid ((h.take0 (k := min 4 l.length) (by omega)).below (below_of3 w (.cells #[.slice A l.length c] 24) (.cells #[.int .u32 most] 22) (.cells #[.int .u16 0, .slice none 0 0] 39)))
  clear h
  have hmf : ∀ (fn : Fn) (first cap : Array Value) (w : World), (Instr.makeFunc fn first cap).run Try.prog w = .ok (.func fn first cap) w := fun _ _ _ _ => rfl
  have i0 := asked_0
  have i1 := asked_1
  have i2 := asked_2
  have hs0 : be (l.take (min 4 l.length)) = be (l.take 4) := by rw [Nat.min_eq_left (by omega)]
  obtain ⟨s, hs⟩ : ∃ s, be (l.take 4) = s := ⟨_, rfl⟩
  rw [hs] at hs0 ho hp hl
  have HS := Lib.hid hs0
  have HO := Lib.hid ho
  clear hs hs0 ho
  obtain ⟨x4, hx4⟩ : ∃ x, l[4]? = some x := ⟨_, List.getElem?_eq_getElem (by omega)⟩
  rw [hx4, Option.getD_some] at hp
  have HX4 := Lib.hid hx4
  have HP := Lib.hid hp
  clear hx4 hp
  obtain ⟨x5, hx5⟩ : ∃ x, l[5]? = some x := ⟨_, List.getElem?_eq_getElem (by omega)⟩
  rw [hx5, Option.getD_some] at hz
  have HX5 := Lib.hid hx5
  have HZ := Lib.hid hz
  clear hx5 hz
  go_enter Try.func26, Try.ntmps26
  go_wp2_with (first
    | (go_at_call 32; refine (tell_n HT.out (by simp; try omega) (by omega)).mono ?_; rintro e w1 ⟨rfl, rfl⟩; rw [HS.out])
    | (go_at_call 34; refine (read2_calls _ _ s most _ (by go_simp) (by go_simp) hm).mono ?_; rintro e w1 ⟨rfl, rfl⟩; rw [HO.out])
    | (go_at_call 35; refine (read3_calls _ _ ⟨w.heap.size, 0, none⟩ A c l.length l x4 s _ (by go_simp) (by go_simp) (by go_simp) (HR.out.below (by repeat (first | exact Below.refl _ _ | refine Below.drew ?_ | refine pw_drewN ?_ _ | refine Below.alloc ?_ (by simp; try omega) _))) rfl (by omega) HX4.out).mono ?_; rintro e w1 ⟨m3, rfl, rfl⟩; rw [HP.out])
    | (go_at_call 36; refine (read4_calls _ A c l.length l x5 _ (by go_simp) (HR.out.below (by repeat (first | exact Below.refl _ _ | refine Below.drew ?_ | refine pw_drewN ?_ _ | refine Below.alloc ?_ (by simp; try omega) _))) rfl (by omega) HX5.out).mono ?_; rintro e w1 ⟨rfl, rfl⟩; rw [HZ.out]))
  refine wp_loop_rounds 4 ?_
  rw [rounds_succ]
  go_wp2_with (first
    | (go_at_call 32; refine (tell_n HT.out (by simp; try omega) (by omega)).mono ?_; rintro e w1 ⟨rfl, rfl⟩; rw [HS.out])
    | (go_at_call 34; refine (read2_calls _ _ s most _ (by go_simp) (by go_simp) hm).mono ?_; rintro e w1 ⟨rfl, rfl⟩; rw [HO.out])
    | (go_at_call 35; refine (read3_calls _ _ ⟨w.heap.size, 0, none⟩ A c l.length l x4 s _ (by go_simp) (by go_simp) (by go_simp) (HR.out.below (by repeat (first | exact Below.refl _ _ | refine Below.drew ?_ | refine pw_drewN ?_ _ | refine Below.alloc ?_ (by simp; try omega) _))) rfl (by omega) HX4.out).mono ?_; rintro e w1 ⟨m3, rfl, rfl⟩; rw [HP.out])
    | (go_at_call 36; refine (read4_calls _ A c l.length l x5 _ (by go_simp) (HR.out.below (by repeat (first | exact Below.refl _ _ | refine Below.drew ?_ | refine pw_drewN ?_ _ | refine Below.alloc ?_ (by simp; try omega) _))) rfl (by omega) HX5.out).mono ?_; rintro e w1 ⟨rfl, rfl⟩; rw [HZ.out]))
  rw [rounds_succ]
  go_wp2_with (first
    | (go_at_call 32; refine (tell_n HT.out (by simp; try omega) (by omega)).mono ?_; rintro e w1 ⟨rfl, rfl⟩; rw [HS.out])
    | (go_at_call 34; refine (read2_calls _ _ s most _ (by go_simp) (by go_simp) hm).mono ?_; rintro e w1 ⟨rfl, rfl⟩; rw [HO.out])
    | (go_at_call 35; refine (read3_calls _ _ ⟨w.heap.size, 0, none⟩ A c l.length l x4 s _ (by go_simp) (by go_simp) (by go_simp) (HR.out.below (by repeat (first | exact Below.refl _ _ | refine Below.drew ?_ | refine pw_drewN ?_ _ | refine Below.alloc ?_ (by simp; try omega) _))) rfl (by omega) HX4.out).mono ?_; rintro e w1 ⟨m3, rfl, rfl⟩; rw [HP.out])
    | (go_at_call 36; refine (read4_calls _ A c l.length l x5 _ (by go_simp) (HR.out.below (by repeat (first | exact Below.refl _ _ | refine Below.drew ?_ | refine pw_drewN ?_ _ | refine Below.alloc ?_ (by simp; try omega) _))) rfl (by omega) HX5.out).mono ?_; rintro e w1 ⟨rfl, rfl⟩; rw [HZ.out]))
  rw [rounds_succ]
  go_wp2_with (first
    | (go_at_call 32; refine (tell_n HT.out (by simp; try omega) (by omega)).mono ?_; rintro e w1 ⟨rfl, rfl⟩; rw [HS.out])
    | (go_at_call 34; refine (read2_calls _ _ s most _ (by go_simp) (by go_simp) hm).mono ?_; rintro e w1 ⟨rfl, rfl⟩; rw [HO.out])
    | (go_at_call 35; refine (read3_calls _ _ ⟨w.heap.size, 0, none⟩ A c l.length l x4 s _ (by go_simp) (by go_simp) (by go_simp) (HR.out.below (by repeat (first | exact Below.refl _ _ | refine Below.drew ?_ | refine pw_drewN ?_ _ | refine Below.alloc ?_ (by simp; try omega) _))) rfl (by omega) HX4.out).mono ?_; rintro e w1 ⟨m3, rfl, rfl⟩; rw [HP.out])
    | (go_at_call 36; refine (read4_calls _ A c l.length l x5 _ (by go_simp) (HR.out.below (by repeat (first | exact Below.refl _ _ | refine Below.drew ?_ | refine pw_drewN ?_ _ | refine Below.alloc ?_ (by simp; try omega) _))) rfl (by omega) HX5.out).mono ?_; rintro e w1 ⟨rfl, rfl⟩; rw [HZ.out]))
  rw [rounds_succ]
  go_wp2_with (first
    | (go_at_call 32; refine (tell_n HT.out (by simp; try omega) (by omega)).mono ?_; rintro e w1 ⟨rfl, rfl⟩; rw [HS.out])
    | (go_at_call 34; refine (read2_calls _ _ s most _ (by go_simp) (by go_simp) hm).mono ?_; rintro e w1 ⟨rfl, rfl⟩; rw [HO.out])
    | (go_at_call 35; refine (read3_calls _ _ ⟨w.heap.size, 0, none⟩ A c l.length l x4 s _ (by go_simp) (by go_simp) (by go_simp) (HR.out.below (by repeat (first | exact Below.refl _ _ | refine Below.drew ?_ | refine pw_drewN ?_ _ | refine Below.alloc ?_ (by simp; try omega) _))) rfl (by omega) HX4.out).mono ?_; rintro e w1 ⟨m3, rfl, rfl⟩; rw [HP.out])
    | (go_at_call 36; refine (read4_calls _ A c l.length l x5 _ (by go_simp) (HR.out.below (by repeat (first | exact Below.refl _ _ | refine Below.drew ?_ | refine pw_drewN ?_ _ | refine Below.alloc ?_ (by simp; try omega) _))) rfl (by omega) HX5.out).mono ?_; rintro e w1 ⟨rfl, rfl⟩; rw [HZ.out]))
  refine bodyPost_ret (v := .tuple #[.agg #[.int .u16 0, .slice none 0 0], .int .i64 0, .int .i64 7]) (by simp [results, Try.results26, go_sem]) rfl ⟨rfl, ?_⟩
  repeat (first | exact Below.refl _ _ | refine Below.drew ?_ | refine pw_drewN ?_ _ | refine Below.setCell ?_ (by simp; try omega) _ | refine Below.alloc ?_ (by simp; try omega) _)

end Go.Proofs.Ytmeljnohkhkfmaa

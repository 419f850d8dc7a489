import Derived.Test.YtmeljnohkhkfmaaCopy
set_option linter.unusedVariables false
set_option linter.unusedSimpArgs false
namespace Go.Proofs.Ytmeljnohkhkfmaa
open Go.RowKit

set_option maxHeartbeats 800000 in
theorem rread_s4 (A : Option Addr) (c : Nat) (l : List UInt8) (most : Nat) (w : World) (h : l.length < 4) :
    Calls Try.prog 31 #[.slice A l.length c, .int .u32 most] w fun e w' => e = .returned (.tuple #[.agg #[.int .u16 0, .slice none 0 0], .int .i64 0, .int .i64 7]) ∧ Below w.heap.size w w' := by
  go_enter Try.func31, Try.ntmps31
  go_wp2_with fail
  refine bodyPost_ret (v := .tuple #[.agg #[.int .u16 0, .slice none 0 0], .int .i64 0, .int .i64 7]) (by simp [results, Try.results31, go_sem]) rfl ⟨rfl, below_alloc w _⟩

/-- The bytes that are there, as cells. -/
theorem Rd.bytes {w : World} {A : Option Addr} {c : Nat} {l : List UInt8} (h : Rd w A c l) (h4 : 4 ≤ l.length) : ∃ b o, A = some ⟨b, o, none⟩ ∧
    ∀ j x, l[j]? = some x → ∀ ob, (w.alloc ob).cell? ⟨b, o + j, none⟩ = some (.int .u8 (x.toNat : Int)) := by
  obtain ⟨b, o, rfl, hc⟩ := h.plain (by omega)
  refine ⟨b, o, rfl, fun j x hj ob => ?_⟩
  obtain ⟨hj', rfl⟩ := List.getElem?_eq_some_iff.1 hj
  exact keeps_alloc (hc j hj') ob

set_option maxRecDepth 100000 in
set_option maxHeartbeats 800000 in
theorem rread_f4a (A : Option Addr) (c : Nat) (l : List UInt8) (most s : Nat) (x4 x5 : UInt8) (w : World) (h : Rd w A c l) (hm : most ≤ 4294967295) (h4 : 4 ≤ l.length) (hs : be (l.take 4) = s) (hx4 : 5 ≤ l.length → l[4]? = some x4) (hx5 : 6 ≤ l.length → l[5]? = some x5)
    (h1 : s < 8) :
    Calls Try.prog 31 #[.slice A l.length c, .int .u32 most] w fun e w' => e = .returned (.tuple #[.agg #[.int .u16 0, .slice none 0 0], .int .i64 0, .int .i64 6]) ∧ Below w.heap.size w w' := by
  have HT := Lib.hid (h.take0 (k := 4) h4)
  have HT4 := Lib.hid (show (l.take 4).length = 4 by rw [List.length_take]; omega)
  have hlc := h.len
  have HS := Lib.hid hs
  have hs' : s ≤ 4294967295 := by have := be_lt_pow (l.take 4); rw [HT4.out, hs] at this; omega
  obtain ⟨b, o, rfl, hcs⟩ := h.bytes h4
  have hb4 := x4.toNat_lt
  have hb5 := x5.toNat_lt
  clear h hs hx4 hx5 hcs
  go_enter Try.func31, Try.ntmps31
  go_wp2_with (go_at_call 42; refine (rtell_n (HT.out.below (below_alloc w _)) HT4.out (by decide)).mono ?_; rintro e w1 ⟨rfl, rfl⟩; rw [HS.out])
  refine bodyPost_ret (v := .tuple #[.agg #[.int .u16 0, .slice none 0 0], .int .i64 0, .int .i64 6]) (by simp [results, Try.results31, go_sem]) rfl ⟨rfl, below_alloc w _⟩

set_option maxRecDepth 100000 in
set_option maxHeartbeats 800000 in
theorem rread_f4b (A : Option Addr) (c : Nat) (l : List UInt8) (most s : Nat) (x4 x5 : UInt8) (w : World) (h : Rd w A c l) (hm : most ≤ 4294967295) (h4 : 4 ≤ l.length) (hs : be (l.take 4) = s) (hx4 : 5 ≤ l.length → l[4]? = some x4) (hx5 : 6 ≤ l.length → l[5]? = some x5)
    (h1 : 8 ≤ s ∧ most < s) :
    Calls Try.prog 31 #[.slice A l.length c, .int .u32 most] w fun e w' => e = .returned (.tuple #[.agg #[.int .u16 0, .slice none 0 0], .int .i64 0, .int .i64 6]) ∧ Below w.heap.size w w' := by
  have HT := Lib.hid (h.take0 (k := 4) h4)
  have HT4 := Lib.hid (show (l.take 4).length = 4 by rw [List.length_take]; omega)
  have hlc := h.len
  have HS := Lib.hid hs
  have hs' : s ≤ 4294967295 := by have := be_lt_pow (l.take 4); rw [HT4.out, hs] at this; omega
  obtain ⟨b, o, rfl, hcs⟩ := h.bytes h4
  have hb4 := x4.toNat_lt
  have hb5 := x5.toNat_lt
  clear h hs hx4 hx5 hcs
  go_enter Try.func31, Try.ntmps31
  go_wp2_with (go_at_call 42; refine (rtell_n (HT.out.below (below_alloc w _)) HT4.out (by decide)).mono ?_; rintro e w1 ⟨rfl, rfl⟩; rw [HS.out])
  refine bodyPost_ret (v := .tuple #[.agg #[.int .u16 0, .slice none 0 0], .int .i64 0, .int .i64 6]) (by simp [results, Try.results31, go_sem]) rfl ⟨rfl, below_alloc w _⟩

set_option maxRecDepth 100000 in
set_option maxHeartbeats 800000 in
theorem rread_s5 (A : Option Addr) (c : Nat) (l : List UInt8) (most s : Nat) (x4 x5 : UInt8) (w : World) (h : Rd w A c l) (hm : most ≤ 4294967295) (h4 : 4 ≤ l.length) (hs : be (l.take 4) = s) (hx4 : 5 ≤ l.length → l[4]? = some x4) (hx5 : 6 ≤ l.length → l[5]? = some x5)
    (h1 : 8 ≤ s ∧ s ≤ most) (h5 : l.length = 4) :
    Calls Try.prog 31 #[.slice A l.length c, .int .u32 most] w fun e w' => e = .returned (.tuple #[.agg #[.int .u16 0, .slice none 0 0], .int .i64 0, .int .i64 7]) ∧ Below w.heap.size w w' := by
  have HT := Lib.hid (h.take0 (k := 4) h4)
  have HT4 := Lib.hid (show (l.take 4).length = 4 by rw [List.length_take]; omega)
  have hlc := h.len
  have HS := Lib.hid hs
  have hs' : s ≤ 4294967295 := by have := be_lt_pow (l.take 4); rw [HT4.out, hs] at this; omega
  obtain ⟨b, o, rfl, hcs⟩ := h.bytes h4
  have hb4 := x4.toNat_lt
  have hb5 := x5.toNat_lt
  clear h hs hx4 hx5 hcs
  go_enter Try.func31, Try.ntmps31
  go_wp2_with (go_at_call 42; refine (rtell_n (HT.out.below (below_alloc w _)) HT4.out (by decide)).mono ?_; rintro e w1 ⟨rfl, rfl⟩; rw [HS.out])
  refine bodyPost_ret (v := .tuple #[.agg #[.int .u16 0, .slice none 0 0], .int .i64 0, .int .i64 7]) (by simp [results, Try.results31, go_sem]) rfl ⟨rfl, below_alloc w _⟩

set_option maxRecDepth 100000 in
set_option maxHeartbeats 800000 in
theorem rread_f5a (A : Option Addr) (c : Nat) (l : List UInt8) (most s : Nat) (x4 x5 : UInt8) (w : World) (h : Rd w A c l) (hm : most ≤ 4294967295) (h4 : 4 ≤ l.length) (hs : be (l.take 4) = s) (hx4 : 5 ≤ l.length → l[4]? = some x4) (hx5 : 6 ≤ l.length → l[5]? = some x5)
    (h1 : 8 ≤ s ∧ s ≤ most) (h5 : 5 ≤ l.length) (h2 : x4.toNat < 2) :
    Calls Try.prog 31 #[.slice A l.length c, .int .u32 most] w fun e w' => e = .returned (.tuple #[.agg #[.int .u16 0, .slice none 0 0], .int .i64 0, .int .i64 6]) ∧ Below w.heap.size w w' := by
  have HT := Lib.hid (h.take0 (k := 4) h4)
  have HT4 := Lib.hid (show (l.take 4).length = 4 by rw [List.length_take]; omega)
  have hlc := h.len
  have HS := Lib.hid hs
  have hs' : s ≤ 4294967295 := by have := be_lt_pow (l.take 4); rw [HT4.out, hs] at this; omega
  obtain ⟨b, o, rfl, hcs⟩ := h.bytes h4
  have hb4 := x4.toNat_lt
  have hb5 := x5.toNat_lt
  have c4 := hcs 4 x4 (hx4 (by omega))
  clear h hs hx4 hx5 hcs
  go_enter Try.func31, Try.ntmps31
  go_wp2_with (go_at_call 42; refine (rtell_n (HT.out.below (below_alloc w _)) HT4.out (by decide)).mono ?_; rintro e w1 ⟨rfl, rfl⟩; rw [HS.out])
  refine bodyPost_ret (v := .tuple #[.agg #[.int .u16 0, .slice none 0 0], .int .i64 0, .int .i64 6]) (by simp [results, Try.results31, go_sem]) rfl ⟨rfl, below_alloc w _⟩

set_option maxRecDepth 100000 in
set_option maxHeartbeats 800000 in
theorem rread_f5b (A : Option Addr) (c : Nat) (l : List UInt8) (most s : Nat) (x4 x5 : UInt8) (w : World) (h : Rd w A c l) (hm : most ≤ 4294967295) (h4 : 4 ≤ l.length) (hs : be (l.take 4) = s) (hx4 : 5 ≤ l.length → l[4]? = some x4) (hx5 : 6 ≤ l.length → l[5]? = some x5)
    (h1 : 8 ≤ s ∧ s ≤ most) (h5 : 5 ≤ l.length) (h2 : 2 ≤ x4.toNat ∧ s < 4 * x4.toNat) :
    Calls Try.prog 31 #[.slice A l.length c, .int .u32 most] w fun e w' => e = .returned (.tuple #[.agg #[.int .u16 0, .slice none 0 0], .int .i64 0, .int .i64 6]) ∧ Below w.heap.size w w' := by
  have HT := Lib.hid (h.take0 (k := 4) h4)
  have HT4 := Lib.hid (show (l.take 4).length = 4 by rw [List.length_take]; omega)
  have hlc := h.len
  have HS := Lib.hid hs
  have hs' : s ≤ 4294967295 := by have := be_lt_pow (l.take 4); rw [HT4.out, hs] at this; omega
  obtain ⟨b, o, rfl, hcs⟩ := h.bytes h4
  have hb4 := x4.toNat_lt
  have hb5 := x5.toNat_lt
  have c4 := hcs 4 x4 (hx4 (by omega))
  clear h hs hx4 hx5 hcs
  go_enter Try.func31, Try.ntmps31
  go_wp2_with (go_at_call 42; refine (rtell_n (HT.out.below (below_alloc w _)) HT4.out (by decide)).mono ?_; rintro e w1 ⟨rfl, rfl⟩; rw [HS.out])
  refine bodyPost_ret (v := .tuple #[.agg #[.int .u16 0, .slice none 0 0], .int .i64 0, .int .i64 6]) (by simp [results, Try.results31, go_sem]) rfl ⟨rfl, below_alloc w _⟩

set_option maxRecDepth 100000 in
set_option maxHeartbeats 800000 in
theorem rread_s6 (A : Option Addr) (c : Nat) (l : List UInt8) (most s : Nat) (x4 x5 : UInt8) (w : World) (h : Rd w A c l) (hm : most ≤ 4294967295) (h4 : 4 ≤ l.length) (hs : be (l.take 4) = s) (hx4 : 5 ≤ l.length → l[4]? = some x4) (hx5 : 6 ≤ l.length → l[5]? = some x5)
    (h1 : 8 ≤ s ∧ s ≤ most) (h5 : l.length = 5) (h2 : 2 ≤ x4.toNat ∧ 4 * x4.toNat ≤ s) :
    Calls Try.prog 31 #[.slice A l.length c, .int .u32 most] w fun e w' => e = .returned (.tuple #[.agg #[.int .u16 0, .slice none 0 0], .int .i64 0, .int .i64 7]) ∧ Below w.heap.size w w' := by
  have HT := Lib.hid (h.take0 (k := 4) h4)
  have HT4 := Lib.hid (show (l.take 4).length = 4 by rw [List.length_take]; omega)
  have hlc := h.len
  have HS := Lib.hid hs
  have hs' : s ≤ 4294967295 := by have := be_lt_pow (l.take 4); rw [HT4.out, hs] at this; omega
  obtain ⟨b, o, rfl, hcs⟩ := h.bytes h4
  have hb4 := x4.toNat_lt
  have hb5 := x5.toNat_lt
  have c4 := hcs 4 x4 (hx4 (by omega))
  clear h hs hx4 hx5 hcs
  go_enter Try.func31, Try.ntmps31
  go_wp2_with (go_at_call 42; refine (rtell_n (HT.out.below (below_alloc w _)) HT4.out (by decide)).mono ?_; rintro e w1 ⟨rfl, rfl⟩; rw [HS.out])
  refine bodyPost_ret (v := .tuple #[.agg #[.int .u16 0, .slice none 0 0], .int .i64 0, .int .i64 7]) (by simp [results, Try.results31, go_sem]) rfl ⟨rfl, below_alloc w _⟩

set_option maxRecDepth 100000 in
set_option maxHeartbeats 800000 in
theorem rread_f6 (A : Option Addr) (c : Nat) (l : List UInt8) (most s : Nat) (x4 x5 : UInt8) (w : World) (h : Rd w A c l) (hm : most ≤ 4294967295) (h4 : 4 ≤ l.length) (hs : be (l.take 4) = s) (hx4 : 5 ≤ l.length → l[4]? = some x4) (hx5 : 6 ≤ l.length → l[5]? = some x5)
    (h1 : 8 ≤ s ∧ s ≤ most) (h5 : 6 ≤ l.length) (h2 : 2 ≤ x4.toNat ∧ 4 * x4.toNat ≤ s) (h3 : x5.toNat ≠ 0) :
    Calls Try.prog 31 #[.slice A l.length c, .int .u32 most] w fun e w' => e = .returned (.tuple #[.agg #[.int .u16 0, .slice none 0 0], .int .i64 0, .int .i64 6]) ∧ Below w.heap.size w w' := by
  have HT := Lib.hid (h.take0 (k := 4) h4)
  have HT4 := Lib.hid (show (l.take 4).length = 4 by rw [List.length_take]; omega)
  have hlc := h.len
  have HS := Lib.hid hs
  have hs' : s ≤ 4294967295 := by have := be_lt_pow (l.take 4); rw [HT4.out, hs] at this; omega
  obtain ⟨b, o, rfl, hcs⟩ := h.bytes h4
  have hb4 := x4.toNat_lt
  have hb5 := x5.toNat_lt
  have c4 := hcs 4 x4 (hx4 (by omega))
  have c5 := hcs 5 x5 (hx5 (by omega))
  have d5 : ((x5.toNat : Int) != 0) = true := by simp; omega
  clear h hs hx4 hx5 hcs
  go_enter Try.func31, Try.ntmps31
  go_wp2_with (go_at_call 42; refine (rtell_n (HT.out.below (below_alloc w _)) HT4.out (by decide)).mono ?_; rintro e w1 ⟨rfl, rfl⟩; rw [HS.out])
  refine bodyPost_ret (v := .tuple #[.agg #[.int .u16 0, .slice none 0 0], .int .i64 0, .int .i64 6]) (by simp [results, Try.results31, go_sem]) rfl ⟨rfl, below_alloc w _⟩

set_option maxRecDepth 100000 in
set_option maxHeartbeats 800000 in
theorem rread_sl (A : Option Addr) (c : Nat) (l : List UInt8) (most s : Nat) (x4 x5 : UInt8) (w : World) (h : Rd w A c l) (hm : most ≤ 4294967295) (h4 : 4 ≤ l.length) (hs : be (l.take 4) = s) (hx4 : 5 ≤ l.length → l[4]? = some x4) (hx5 : 6 ≤ l.length → l[5]? = some x5)
    (h1 : 8 ≤ s ∧ s ≤ most) (h5 : 6 ≤ l.length) (h2 : 2 ≤ x4.toNat ∧ 4 * x4.toNat ≤ s) (h3 : x5.toNat = 0) (h6 : l.length < s) :
    Calls Try.prog 31 #[.slice A l.length c, .int .u32 most] w fun e w' => e = .returned (.tuple #[.agg #[.int .u16 0, .slice none 0 0], .int .i64 0, .int .i64 7]) ∧ Below w.heap.size w w' := by
  have HT := Lib.hid (h.take0 (k := 4) h4)
  have HT4 := Lib.hid (show (l.take 4).length = 4 by rw [List.length_take]; omega)
  have hlc := h.len
  have HS := Lib.hid hs
  have hs' : s ≤ 4294967295 := by have := be_lt_pow (l.take 4); rw [HT4.out, hs] at this; omega
  obtain ⟨b, o, rfl, hcs⟩ := h.bytes h4
  have hb4 := x4.toNat_lt
  have hb5 := x5.toNat_lt
  have c4 := hcs 4 x4 (hx4 (by omega))
  have c5 := hcs 5 x5 (hx5 (by omega))
  have d5 : ((x5.toNat : Int) != 0) = false := by simp; omega
  clear h hs hx4 hx5 hcs
  go_enter Try.func31, Try.ntmps31
  go_wp2_with (go_at_call 42; refine (rtell_n (HT.out.below (below_alloc w _)) HT4.out (by decide)).mono ?_; rintro e w1 ⟨rfl, rfl⟩; rw [HS.out])
  refine bodyPost_ret (v := .tuple #[.agg #[.int .u16 0, .slice none 0 0], .int .i64 0, .int .i64 7]) (by simp [results, Try.results31, go_sem]) rfl ⟨rfl, below_alloc w _⟩
end Go.Proofs.Ytmeljnohkhkfmaa

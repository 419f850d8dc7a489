import Derived.Test.YtmeljnohkhkfmaaIn7
set_option linter.unusedVariables false
set_option linter.unusedSimpArgs false
namespace Go.Proofs.Ytmeljnohkhkfmaa
open Go.RowKit

set_option maxHeartbeats 400000 in
theorem iput_nil (B : Option Addr) (n d : Nat) (w : World) :
    Calls Try.prog 14 #[.pointer none, .slice B n d] w fun e w' => e = .returned (.int .i64 0) ∧ w = w' := by
  go_enter Try.func14, Try.ntmps14
  go_wp2_with fail
  refine (iroom_nil _).mono ?_
  rintro e w1 ⟨rfl, rfl⟩
  go_wp2_with fail
  go_ret
  exact ⟨rfl, rfl⟩
theorem same_n {A B : Option Addr} {c d n k : Nat} {l m : List UInt8} {x y : Nat} {w : World} (h : Rd w A c l) (h2 : Rd w B d m) (hn : l.length = n) (hk : m.length = k) {b : Bool} (hb : (decide (x = y) && decide (l = m)) = b) :
    Calls Try.prog 19 #[.agg #[.int .u16 x, .slice A n c], .agg #[.int .u16 y, .slice B k d]] w fun e w' => e = .returned (.bool b) ∧ Below w.heap.size w w' := by
  subst hn hk hb
  exact same_calls A B c d l m x y w h h2
theorem rd_nil0 (w : World) : Rd w none 0 [] := Rd.zero (by decide) (fun _ => rfl)

set_option maxRecDepth 100000 in
set_option maxHeartbeats 1000000 in
theorem inil_calls (A : Option Addr) (n c : Nat) (size : Nat) (w : World) (hs : size ≤ 4294967295) :
    Calls Try.prog 7 #[.slice A n c, .int .u32 size] w fun e w' => e = .returned (.bool true) ∧ Below w.heap.size w w' := by
  go_enter Try.func7, Try.ntmps7
  go_wp2_with fail
  refine (inext_nil _).mono ?_
  rintro e w1 ⟨rfl, b1⟩
  have B1 := Lib.hid b1
  clear b1
  go_wp2_with fail
  refine (same_n (x := 0) (y := 0) (rd_nil0 _) (rd_nil0 _) rfl rfl (b := true) (by decide)).mono ?_
  rintro e w2 ⟨rfl, b2⟩
  have B2 := Lib.hid (B1.out.trans ((below_alloc w1 _).mono B1.out.size |>.trans (b2.mono (by have := B1.out.size; simp; omega))))
  clear b2 B1
  go_wp2_with fail
  refine (iput_nil A n c _).mono ?_
  rintro e w3 ⟨rfl, rfl⟩
  go_wp2_with fail
  refine (iheld_nil _).mono ?_
  rintro e w3 ⟨rfl, rfl⟩
  go_wp2_with fail
  refine (iroom_nil _).mono ?_
  rintro e w3 ⟨rfl, rfl⟩
  go_wp2_with fail
  by_cases h : 512 ≤ size ∧ size ≤ 4096
  · obtain ⟨h1, h2⟩ := h
    refine (inew_ok size _ h1 h2).mono ?_
    rintro e w4 ⟨rfl, -, b4⟩
    have B4 := Lib.hid (below_then B2.out B2.out.size b4)
    clear b4
    go_wp2_with fail
    refine (works_calls _).mono ?_
    rintro e w5 ⟨rfl, b5⟩
    have B5 := Lib.hid (below_then B4.out B4.out.size b5)
    clear b5
    go_wp2_with fail
    go_ret
    exact ⟨rfl, B5.out⟩
  · refine (inew_bad size _ (by omega) hs).mono ?_
    rintro e w4 ⟨rfl, rfl⟩
    by_cases h1 : size < 512
    · clear h
      go_wp2_with fail
      refine (works_calls _).mono ?_
      rintro e w5 ⟨rfl, b5⟩
      have B5 := Lib.hid (below_then B2.out B2.out.size b5)
      clear b5
      go_wp2_with fail
      go_ret
      exact ⟨rfl, B5.out⟩
    · have h2 : 4096 < size := by omega
      have h3 : decide ((size : Int) ≤ 4096) = false := decide_eq_false (by omega)
      clear h
      go_wp2_with fail
      refine (works_calls _).mono ?_
      rintro e w5 ⟨rfl, b5⟩
      have B5 := Lib.hid (below_then B2.out B2.out.size b5)
      clear b5
      go_wp2_with fail
      go_ret
      exact ⟨rfl, B5.out⟩
theorem inil_row {w : World} (A : Option Addr) (c : Nat) (l : List UInt8) (h : Rd w A c l) (x : Int) (hx : (Lit.int .u32 x).wf = true) :
    Calls Try.prog 7 #[.slice A l.length c, .int .u32 x] w fun e w' => e = .returned (.bool true) ∧ Below w.heap.size w w' := by
  obtain ⟨h1, h2⟩ := wf_u32 hx
  obtain ⟨n, rfl⟩ := Int.eq_ofNat_of_zero_le h1
  exact inil_calls A l.length c n w (by omega)
end Go.Proofs.Ytmeljnohkhkfmaa

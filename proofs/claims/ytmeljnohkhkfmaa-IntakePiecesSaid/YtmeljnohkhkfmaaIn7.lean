import Derived.Test.YtmeljnohkhkfmaaIn6
set_option linter.unusedVariables false
set_option linter.unusedSimpArgs false
namespace Go.Proofs.Ytmeljnohkhkfmaa
open Go.RowKit

/-- An intake that was made since w0. -/
structure InF (w0 w : World) (a : Nat) (F : List Nat) (most : Nat) (l : List UInt8) (ph : Nat) : Prop where
  old : Below w0.heap.size w0 w
  is : In w a F most l ph
  hi : ∀ k ∈ F, w0.heap.size ≤ k
theorem InF.below {w0 w w' : World} {a : Nat} {F : List Nat} {most ph : Nat} {l : List UInt8} (h : InF w0 w a F most l ph) (hb : Below w.heap.size w w') : InF w0 w' a F most l ph :=
  ⟨below_then h.old h.old.size hb, h.is.below hb, h.hi⟩
theorem InF.step {w0 w w' : World} {a : Nat} {F F' : List Nat} {most ph ph' : Nat} {l l' : List UInt8} (h : InF w0 w a F most l ph) (hm : In w' a F' most l' ph') (ht : Tch F w w') (hf : ∀ k ∈ F', k ∈ F ∨ w.heap.size ≤ k) : InF w0 w' a F' most l' ph' :=
  ⟨h.old.trans (ht.below h.old.size h.hi), hm, fun k hk => by
    rcases hf k hk with e | e
    · exact h.hi k e
    · exact Nat.le_trans h.old.size e⟩
theorem InF.off {w0 w w' : World} {a : Nat} {F Z : List Nat} {most ph : Nat} {l : List UInt8} (h : InF w0 w a F most l ph) (t : Tch Z w w') (hz : ∀ k ∈ Z, k ∉ F ∧ w0.heap.size ≤ k) : InF w0 w' a F most l ph :=
  ⟨h.old.trans (t.below h.old.size (fun k hk => (hz k hk).2)), h.is.tch t (fun k hk h => (hz k h).1 hk), h.hi⟩
theorem if_new (w0 w : World) (h : Below w0.heap.size w0 w) (most : Nat) (h1 : 512 ≤ most) (h2 : most ≤ 4096) :
    Calls Try.prog 11 #[.int .u32 most] w fun e w' => e = .returned (.tuple #[.pointer (some ⟨w.heap.size, 0, none⟩), .int .i64 0]) ∧ InF w0 w' w.heap.size [w.heap.size] most [] 0 ∧ Below w.heap.size w w' :=
  (inew_ok most w h1 h2).mono fun e w' ⟨h3, h4, h5⟩ => ⟨h3, ⟨below_then h h.size h5, h4, fun k hk => by
    have := h.size
    simp at hk
    omega⟩, h5⟩
def PfP (n : Nat) (w0 w : World) (a : Nat) (F : List Nat) (most : Nat) (l : List UInt8) (ph : Nat) (e : Ending) (w' : World) : Prop :=
  ∃ F', e = .returned (.int .i64 n) ∧ InF w0 w' a F' most l ph ∧ Tch F w w' ∧ ∀ k ∈ F', k ∈ F ∨ w.heap.size ≤ k
theorem if_put {w0 w : World} {a : Nat} {F : List Nat} {most ph n nb : Nat} {l l' b : List UInt8} {B : Option Addr} {d : Nat} (h : InF w0 w a F most l ph) (hb : Rd w B d b) (hn : b.length = nb) (r : tookI most l ph b = n) (r2 : l ++ b.take n = l') :
    Calls Try.prog 14 #[.pointer (some ⟨a, 0, none⟩), .slice B nb d] w (PfP n w0 w a F most l' ph) := by
  subst hn
  refine (iput_calls h.is hb).mono fun e w' ⟨F', h1, h2, h3, h4⟩ => ?_
  rw [r] at h1 h2
  rw [r2] at h2
  exact ⟨F', h1, h.step h2 h3 h4, h3, h4⟩
def NfP (kind ch : Nat) (body : List UInt8) (w0 w : World) (a : Nat) (F : List Nat) (most : Nat) (l : List UInt8) (ph : Nat) (e : Ending) (w' : World) : Prop :=
  ∃ F' v, e = .returned (.tuple #[.int .u8 kind, .agg #[.int .u16 ch, v]]) ∧ OwnB w' w.heap.size v body ∧ InF w0 w' a F' most l ph ∧ Tch F w w' ∧ (∀ k ∈ F', k ∈ F ∨ w.heap.size ≤ k) ∧ ∀ g, v.ownBlock = some g → g ∉ F'
theorem if_next {w0 w : World} {a : Nat} {F : List Nat} {most ph kind ch ph' : Nat} {l body l' : List UInt8} (h : InF w0 w a F most l ph) (r : nextI most l ph = ⟨kind, ch, body, l', ph'⟩) :
    Calls Try.prog 17 #[.pointer (some ⟨a, 0, none⟩)] w (NfP kind ch body w0 w a F most l' ph') := by
  refine (inext_calls h.is).mono fun e w' ⟨F', v, h1, h2, h3, h4, h5, h6⟩ => ?_
  rw [r] at h1 h2 h3
  exact ⟨F', v, h1, h2, h.step h3 h4 h5, h4, h5, h6⟩
theorem if_room {w0 w : World} {a : Nat} {F : List Nat} {most ph n : Nat} {l : List UInt8} (h : InF w0 w a F most l ph) (r : roomI most l ph = n) :
    Calls Try.prog 21 #[.pointer (some ⟨a, 0, none⟩)] w fun e w' => e = .returned (.int .i64 n) ∧ InF w0 w' a F most l ph ∧ Below w.heap.size w w' := by
  subst r
  exact (iroom_calls h.is).mono fun e w' ⟨h1, h2⟩ => ⟨h1, h.below h2, h2⟩
theorem if_held {w0 w : World} {a : Nat} {F : List Nat} {most ph n : Nat} {l : List UInt8} (h : InF w0 w a F most l ph) (r : l.length = n) :
    Calls Try.prog 20 #[.pointer (some ⟨a, 0, none⟩)] w fun e w' => e = .returned (.int .i64 n) ∧ w = w' := by
  subst r
  exact iheld_calls h.is

set_option maxRecDepth 100000 in
set_option maxHeartbeats 4000000 in
theorem works_calls (w : World) :
    Calls Try.prog 10 #[] w fun e w' => e = .returned (.bool true) ∧ Below w.heap.size w w' := by
  go_enter Try.func10, Try.ntmps10
  go_wp2_with fail
  refine (if_new w w (Below.refl _ _) 512 (by decide) (by decide)).mono ?_
  rintro e w1 ⟨rfl, m1, -⟩
  have M1 := Lib.hid m1
  clear m1
  go_wp2_with fail
  refine (if_room M1.out (n := 520) (by rfl)).mono ?_
  rintro e w2 ⟨rfl, m2, -⟩
  have M2 := Lib.hid m2
  obtain ⟨a, ha⟩ : ∃ a, w.heap.size = a := ⟨_, rfl⟩
  have HA := Lib.hid ha
  rw [ha] at M2 ⊢
  clear m2 M1 ha
  go_wp2_with fail
  refine (istart_calls _).mono ?_
  rintro e w3 ⟨rfl, o3, b3⟩
  have M3 := Lib.hid (M2.out.below b3)
  have O3 := Lib.hid o3
  clear o3 b3
  go_wp2_with (at_builtin; refine wpList_appB _ rfl _ _ rfl w2.heap.size (.slice (some ⟨w2.heap.size, 0, none⟩) 8 8) stB rfl (O3.out.alloc _) (some ⟨w3.heap.size, 0, none⟩) 4 4 [0, 0, 0, 8] rfl rfl (rd_lit [0, 0, 0, 8] rfl (by decide)) (by decide) ?hbase ?_)
  case hbase => have := (OwnB.lt O3.out w2.heap.size rfl).2; simp; omega
  intro v4 w4 o4 g4 y1 y2
  clear y1 y2
  obtain ⟨A4, c4, rfl, r4⟩ := o4.rd
  have R4 := Lib.hid r4
  have M4 := Lib.hid (M3.out.off (Z := [w2.heap.size]) (((Tch.refl _ _).alloc _).grown g4 (fun k hk => by simp [Value.ownBlock] at hk; simp [hk])) (fun k hk => by
    have h1 := M2.out.is.lts a (by simp)
    have h2 := M2.out.old.size
    simp at hk
    rw [hk]
    exact ⟨by simp; omega, h2⟩))
  clear o4 g4 r4 M3 O3 M2
  go_wp2_with fail
  refine (if_put M4.out R4.out rfl (n := 12) (l' := [65, 77, 81, 80, 0, 1, 0, 0, 0, 0, 0, 8]) (by decide +kernel) (by decide +kernel)).mono ?_
  rintro e w5 ⟨F5, rfl, m5, -, -⟩
  have M5 := Lib.hid m5
  clear m5 M4 R4
  go_wp2_with fail
  refine (if_next M5.out (kind := 1) (ch := 0) (body := []) (l' := [0, 0, 0, 8]) (ph' := 1) (by rfl)).mono ?_
  rintro e w6 ⟨F6, v6, rfl, o6, m6, -, -, -⟩
  obtain ⟨A6, c6, rfl⟩ := OwnC.slice o6
  have M6 := Lib.hid m6
  clear m6 M5 o6
  go_upto_region 6 with fail
  refine forget (fun W => InF w W a F6 512 [0, 0, 0, 8] 1) (M6.out.below (below_alloc w6 _)) ?_
  rintro W6 m6
  have M6' := Lib.hid m6
  clear m6 M6
  go_wp2_with fail
  refine (if_next M6'.out (kind := 0) (ch := 0) (body := []) (l' := [0, 0, 0, 8]) (ph' := 1) (by rfl)).mono ?_
  rintro e w7 ⟨F7, v7, rfl, o7, m7, -, -, -⟩
  obtain ⟨A7, c7, rfl⟩ := OwnC.slice o7
  have M7 := Lib.hid m7
  clear m7 M6' o7
  go_upto_region 7 with fail
  refine forget (fun W => InF w W a F7 512 [0, 0, 0, 8] 1) (M7.out.below (below_alloc w7 _)) ?_
  rintro W7 m7
  have M7' := Lib.hid m7
  clear m7 M7
  go_wp2_with fail
  refine (if_put (M7'.out.below (below_alloc _ _)) (rd_lit [2, 0, 0, 3] rfl (by decide)) rfl (n := 4) (l' := [0, 0, 0, 8, 2, 0, 0, 3]) (by decide +kernel) (by decide +kernel)).mono ?_
  rintro e w8 ⟨F8, rfl, m8, -, -⟩
  have M8 := Lib.hid m8
  clear m8 M7'
  go_wp2_with fail
  refine (if_next M8.out (kind := 2) (ch := 3) (body := []) (l' := []) (ph' := 1) (by rfl)).mono ?_
  rintro e w9 ⟨F9, v9, rfl, o9, m9, -, -, -⟩
  obtain ⟨A9, c9, rfl⟩ := OwnC.slice o9
  have M9 := Lib.hid m9
  clear m9 M8 o9
  go_upto_region 9 with fail
  obtain ⟨X, hX⟩ : ∃ X, w9.heap.size = X := ⟨_, rfl⟩
  refine forget (fun W => InF w W a F9 512 [] 1 ∧ FrB W X 3 (.slice A9 0 c9) ∧ Hid (X ∉ F9)) ⟨M9.out.below (below_alloc w9 _), heap_last hX.symm, Lib.hid (fun h => by have := M9.out.is.lts X h; omega)⟩ ?_
  rw [hX]
  rintro W9 ⟨m9, k9, HX9⟩
  have M9' := Lib.hid m9
  have K9 := Lib.hid k9
  have hxw := heap_lt k9
  clear m9 M9 hX k9
  go_wp2_with fail
  refine (if_put (M9'.out.below (below_alloc _ _)) (rd_lit [0, 0, 0, 7] rfl (by decide)) rfl (n := 4) (l' := [0, 0, 0, 7]) (by decide +kernel) (by decide +kernel)).mono ?_
  rintro e w10 ⟨F10, rfl, m10, t10, f10⟩
  have M10 := Lib.hid m10
  have K10 := Lib.hid ((K9.out.tch (Tch.of_below [] (below_alloc _ _)) (by simp)).tch t10 HX9.out)
  have HX10 := Lib.hid (show X ∉ F10 from fun h => by
    rcases f10 X h with h | h
    · exact HX9.out h
    · simp at h; omega)
  have hxw10 := heap_lt K10.out
  clear m10 M9' t10 f10 K9 HX9
  go_wp2_with fail
  refine (if_next M10.out (kind := 3) (ch := 0) (body := []) (l' := []) (ph' := 2) (by rfl)).mono ?_
  rintro e w11 ⟨F11, v11, rfl, o11, m11, t11, f11, -⟩
  obtain ⟨A11, c11, rfl⟩ := OwnC.slice o11
  have M11 := Lib.hid m11
  have K11 := Lib.hid (K10.out.tch t11 HX10.out)
  have HX11 := Lib.hid (show X ∉ F11 from fun h => by
    rcases f11 X h with h | h
    · exact HX10.out h
    · omega)
  clear m11 t11 f11 M10 K10 HX10 hxw10 o11
  go_upto_region 11 with fail
  refine forget (fun W => InF w W a F11 512 [] 2 ∧ FrB W X 3 (.slice A9 0 c9)) ⟨M11.out.below (below_alloc w11 _), K11.out.tch (Tch.of_below [] (below_alloc w11 _)) (by simp)⟩ ?_
  rintro W11 ⟨m11, k11⟩
  have M11' := Lib.hid m11
  obtain ⟨x0, -, -⟩ := k11.cells
  clear m11 M11 K11 hxw k11
  go_wp2_with fail
  refine (if_room M11'.out (n := 0) (by rfl)).mono ?_
  rintro e w12 ⟨rfl, m12, -⟩
  have M12 := Lib.hid m12
  clear m12 M11' x0
  go_wp2_with fail
  refine (if_put (M12.out.below (below_alloc _ _)) (rd_lit [1] rfl (by decide)) rfl (n := 0) (l' := []) (by decide +kernel) (by decide +kernel)).mono ?_
  rintro e w13 ⟨F13, rfl, m13, -, -⟩
  have M13 := Lib.hid m13
  clear m13 M12
  go_wp2_with fail
  refine (if_held M13.out (n := 0) rfl).mono ?_
  rintro e w14 ⟨rfl, rfl⟩
  go_wp2_with fail
  go_ret
  exact ⟨rfl, M13.out.old⟩
end Go.Proofs.Ytmeljnohkhkfmaa

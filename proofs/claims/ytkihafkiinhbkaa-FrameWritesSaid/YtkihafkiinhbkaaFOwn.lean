import Derived.Test.YtkihafkiinhbkaaFLaw
set_option linter.unusedVariables false
set_option linter.unusedSimpArgs false
namespace Go.Proofs.Ytkihafkiinhbkaa
open Go.RowKit

set_option maxHeartbeats 800000 in
theorem fown_big (A B : Option Addr) (c d : Nat) (l p : List UInt8) (most : Nat) (w : World) (hb : 8192 < l.length ∨ 4096 < p.length) :
    Calls Try.prog 6 #[.slice A l.length c, .slice B p.length d, .int .u32 most] w fun e w' => e = .returned (.bool true) ∧ Below w.heap.size w w' := by
  by_cases h1 : 8192 < l.length
  · clear hb
    go_enter Try.func6, Try.ntmps6
    go_wp2_with (go_at_call 14; refine (works11_calls _).mono ?_; rintro e w1 ⟨rfl, h1⟩; have H1 := Lib.hid h1; clear h1)
    go_ret
    exact ⟨rfl, H1.out⟩
  · have h2 : 4096 < p.length := by omega
    clear hb
    go_enter Try.func6, Try.ntmps6
    go_wp2_with (go_at_call 14; refine (works11_calls _).mono ?_; rintro e w1 ⟨rfl, h1⟩; have H1 := Lib.hid h1; clear h1)
    go_ret
    exact ⟨rfl, H1.out⟩

theorem read_n {A : Option Addr} {c : Nat} {l : List UInt8} {most : Nat} {w : World} {n : Nat} (h : Rd w A c l) (hm : most ≤ 4294967295) (hn : n = l.length) :
    Calls Try.prog 21 #[.slice A n c, .int .u32 most] w fun e w' => ∃ v, e = frRet (fr l most) v ∧ OwnB w' w.heap.size v (fr l most).body ∧ Below w.heap.size w w' := by
  subst hn
  exact read_calls A c l most w h hm
theorem keeps_alloc {w : World} {a : Addr} {v : Value} (h : w.cell? a = some v) (o : Obj) : (w.alloc o).cell? a = some v := (World.cell?_alloc_lt _ _ _ (World.block_lt_of_cell? _ _ h)).trans h

set_option maxRecDepth 100000 in
set_option maxHeartbeats 1000000 in
theorem fown_ok (A B : Option Addr) (c d : Nat) (l p : List UInt8) (most : Nat) (w : World) (hl : Rd w A c l) (hp : Rd w B d p) (hm : most ≤ 4294967295) (hb1 : l.length ≤ 8192) (hb2 : p.length ≤ 4096)
    (h1 : 8 ≤ fsz l ∧ fsz l ≤ most) (h2 : 8 ≤ fpl l ∧ fpl l ≤ fsz l) (h3 : fty l = 0) (h4 : fsz l ≤ l.length) :
    Calls Try.prog 6 #[.slice A l.length c, .slice B p.length d, .int .u32 most] w fun e w' => e = .returned (.bool true) ∧ Below w.heap.size w w' := by
  have HL := Lib.hid hl
  have HP := Lib.hid hp
  have F1 := Lib.hid (fr_ok h1 h2 h3 h4)
  have F2 := Lib.hid (fr_app_ok p h1 h2 h3 h4)
  have F3 := Lib.hid (fr_cut (fsz l - 1) h1 h2 h3 h4 (by omega))
  obtain ⟨s, hs⟩ : ∃ s, fsz l = s := ⟨_, rfl⟩
  have HG := Lib.hid (show fgood l = ⟨0, s, (fgood l).ch, (fgood l).body⟩ from by rw [← hs]; rfl)
  have hlc := hl.len
  rw [hs] at h1 h2 h4 F3
  clear hl hp hs
  go_enter Try.func6, Try.ntmps6
  go_wp2_with fail
  refine (read_calls A c l most _ HL.out hm).mono ?_
  rintro e w1 ⟨v1, rfl, o1, b1⟩
  rw [F1.out, HG.out] at o1 ⊢
  simp only [frRet] at o1 ⊢
  obtain ⟨ch, hch⟩ : ∃ ch, (fgood l).ch = ch := ⟨_, rfl⟩
  obtain ⟨bd, hbd⟩ : ∃ bd, (fgood l).body = bd := ⟨_, rfl⟩
  rw [hch, hbd] at HG
  rw [hch] at ⊢
  rw [hbd] at o1
  clear hch hbd
  obtain ⟨A1, c1, rfl, r1⟩ := o1.rd
  have R1 := Lib.hid r1
  have B1 := Lib.hid b1
  clear o1 r1 b1
  have c0 : (w1.alloc (.cells #[.int .u16 ch, .slice A1 bd.length c1] 25)).cell? ⟨w1.heap.size, 0, none⟩ = some (.int .u16 ch) := by go_simp
  have c1' : (w1.alloc (.cells #[.int .u16 ch, .slice A1 bd.length c1] 25)).cell? ⟨w1.heap.size, 1, none⟩ = some (.slice A1 bd.length c1) := by go_simp
  have BA := Lib.hid (below_alloc w1 (.cells #[.int .u16 ch, .slice A1 bd.length c1] 25))
  have HC0 := Lib.hid (And.intro c0 c1')
  clear c0 c1'
  go_wp2_with (at_builtin; refine wpList_appB _ rfl _ _ rfl (w1.heap.size + 1) (.slice none 0 0) [] rfl OwnB.nil_ A _ _ l rfl rfl ((HL.out.below B1.out).below BA.out) ?hb ?hbase ?_)
  case hb => simp; omega
  case hbase => simp
  intro v2 w2 a1 a2 a3 a4
  obtain ⟨A2, c2, rfl, r2⟩ := a1.rd
  have H2 := Lib.hid a1
  have B2 := Lib.hid (below_grown (Below.refl (w1.heap.size + 1) _) (by simp) a2 (fun k hk => by cases hk))
  have hlen : (l ++ p).length = l.length + p.length := List.length_append
  obtain ⟨L, hL⟩ : ∃ L, l ++ p = L := ⟨_, rfl⟩
  rw [hL] at hlen F2
  have HLEN := Lib.hid hlen
  have HLL := Lib.hid hL
  clear a1 a2 a3 a4 r2 hlen hL
  go_wp2_with (at_builtin; refine wpList_appB _ rfl _ _ rfl (w1.heap.size + 1) (.slice A2 l.length c2) l rfl H2.out B _ _ p rfl rfl (HP.out.below ?rd) ?hb ?hbase ?_)
  case rd => exact below_then B1.out B1.out.size (BA.out.trans (B2.out.mono (by omega)))
  case hb => omega
  case hbase => have := B2.out.size; simp at this; omega
  intro v3 w3 a1 a2 a3 a4
  rw [HLL.out] at a1
  obtain ⟨A3, c3, rfl, r3⟩ := a1.rd
  have R3 := Lib.hid r3
  have B3 := Lib.hid (below_grown B2.out (by have := B2.out.size; simp at this; omega) a2 (fun k hk => (H2.out.lt k hk).1))
  clear a1 a2 a3 a4 r3
  have HC3 := Lib.hid (And.intro (below_keeps B3.out HC0.out.1 (by simp)) (below_keeps B3.out HC0.out.2 (by simp)))
  have BW3 := Lib.hid (below_then B1.out B1.out.size (BA.out.trans (B3.out.mono (by omega))))
  have R13 := Lib.hid (R1.out.below (BA.out.trans (B3.out.mono (by omega))))
  clear B2 H2 HC0 B3 BA R1 B1
  go_wp2_with fail
  refine (read_calls A3 c3 L most _ R3.out hm).mono ?_
  rintro e w4 ⟨v4, rfl, o4, b4⟩
  rw [F2.out, HG.out] at o4 ⊢
  simp only [frRet] at o4 ⊢
  obtain ⟨A4, c4, rfl, r4⟩ := o4.rd
  have c40 := below_keeps b4 HC3.out.1 (World.block_lt_of_cell? _ _ HC3.out.1)
  have c41 := below_keeps b4 HC3.out.2 (World.block_lt_of_cell? _ _ HC3.out.2)
  have HC4 := Lib.hid (And.intro c40 c41)
  have R4 := Lib.hid r4
  have R14 := Lib.hid (R13.out.below b4)
  have BW4 := Lib.hid (below_then BW3.out BW3.out.size b4)
  clear c40 c41 o4 r4 b4 HC3 R13 BW3
  go_wp2_with fail
  refine (read_n (HL.out.take0 (k := s - 1) (by omega) |>.below (BW4.out.alloc BW4.out.size _)) hm (by simp; omega)).mono ?_
  rintro e w5 ⟨v5, rfl, o5, b5⟩
  rw [F3.out] at o5 ⊢
  simp only [frRet] at o5 ⊢
  obtain ⟨A5, c5, rfl, r5⟩ := o5.rd
  have k0 := below_keeps b5 (keeps_alloc HC4.out.1 _) (World.block_lt_of_cell? _ _ (keeps_alloc HC4.out.1 _))
  have k1 := below_keeps b5 (keeps_alloc HC4.out.2 _) (World.block_lt_of_cell? _ _ (keeps_alloc HC4.out.2 _))
  have k2 : w5.cell? ⟨w4.heap.size, 0, none⟩ = some (.int .u16 ch) := below_keeps b5 (by go_simp) (by simp)
  have k3 : w5.cell? ⟨w4.heap.size, 1, none⟩ = some (.slice A4 bd.length c4) := below_keeps b5 (by go_simp) (by simp)
  have R5 := Lib.hid ((R4.out.below (below_alloc w4 _)).below b5)
  have R15 := Lib.hid ((R14.out.below (below_alloc w4 _)).below b5)
  have BW5 := Lib.hid (below_then (BW4.out.alloc BW4.out.size _) (by have := BW4.out.size; simp; omega) b5)
  clear o5 r5 b5 HC4 R4 R14 BW4
  have n0 := keeps_alloc k0
  have n1 := keeps_alloc k1
  have n2 := keeps_alloc k2
  have n3 := keeps_alloc k3
  go_wp2_with fail
  refine (same_calls A1 A4 c1 c4 bd bd ch ch _ (R15.out.below (below_alloc w5 _)) (R5.out.below (below_alloc w5 _))).mono ?_
  rintro e w6 ⟨rfl, b6⟩
  rw [decide_eq_true rfl, decide_eq_true rfl, Bool.true_and]
  have BW6 := Lib.hid (below_then (BW5.out.alloc BW5.out.size _) (by have := BW5.out.size; simp; omega) b6)
  clear k0 k1 k2 k3 n0 n1 n2 n3 b6
  go_wp2_with fail
  refine (works11_calls _).mono ?_
  rintro e w7 ⟨rfl, b7⟩
  have BW7 := Lib.hid (below_then BW6.out BW6.out.size b7)
  clear b7
  go_wp2
  go_ret
  exact ⟨rfl, BW7.out⟩

set_option maxRecDepth 100000 in
set_option maxHeartbeats 1000000 in
theorem fown_six (A B : Option Addr) (c d : Nat) (l p : List UInt8) (most : Nat) (w : World) (hl : Rd w A c l) (hp : Rd w B d p) (hm : most ≤ 4294967295) (hb1 : l.length ≤ 8192) (hb2 : p.length ≤ 4096)
    (h1 : fr l most = ⟨6, 0, 0, []⟩) :
    Calls Try.prog 6 #[.slice A l.length c, .slice B p.length d, .int .u32 most] w fun e w' => e = .returned (.bool true) ∧ Below w.heap.size w w' := by
  have HL := Lib.hid hl
  have HP := Lib.hid hp
  have F1 := Lib.hid h1
  have F2 := Lib.hid (fr_app_six p h1)
  have hlc := hl.len
  clear hl hp h1
  go_enter Try.func6, Try.ntmps6
  go_wp2_with fail
  refine (read_calls A c l most _ HL.out hm).mono ?_
  rintro e w1 ⟨v1, rfl, o1, b1⟩
  rw [F1.out] at o1 ⊢
  simp only [frRet] at o1 ⊢
  obtain ⟨A1, c1, rfl, r1⟩ := o1.rd
  have B1 := Lib.hid b1
  clear o1 r1 b1
  go_wp2_with (at_builtin; refine wpList_appB _ rfl _ _ rfl (w1.heap.size + 1) (.slice none 0 0) [] rfl OwnB.nil_ A _ _ l rfl rfl ((HL.out.below B1.out).below (below_alloc w1 _)) ?hb ?hbase ?_)
  case hb => simp; omega
  case hbase => simp
  intro v2 w2 a1 a2 a3 a4
  obtain ⟨A2, c2, rfl, r2⟩ := a1.rd
  have H2 := Lib.hid a1
  have HS2 := Lib.hid (show w1.heap.size + 1 ≤ w2.heap.size by have := a2.size; simp at this; omega)
  have B2 := Lib.hid (below_grown (B1.out.alloc B1.out.size _) (by have := B1.out.size; simp; omega) a2 (fun k hk => by cases hk))
  obtain ⟨L, hL⟩ : ∃ L, l ++ p = L := ⟨_, rfl⟩
  rw [hL] at F2
  have HLL := Lib.hid hL
  clear a1 a2 a3 a4 r2 hL
  go_wp2_with (at_builtin; refine wpList_appB _ rfl _ _ rfl (w1.heap.size + 1) (.slice A2 l.length c2) l rfl H2.out B _ _ p rfl rfl (HP.out.below ?rd) ?hb ?hbase ?_)
  case rd => exact B2.out
  case hb => omega
  case hbase => have := HS2.out; omega
  intro v3 w3 a1 a2 a3 a4
  rw [HLL.out] at a1
  obtain ⟨A3, c3, rfl, r3⟩ := a1.rd
  have R3 := Lib.hid r3
  have B3 := Lib.hid (below_grown B2.out B2.out.size a2 (fun k hk => by have := (H2.out.lt k hk).1; have := B1.out.size; omega))
  clear a1 a2 a3 a4 r3
  go_wp2_with fail
  refine (read_calls A3 c3 L most _ R3.out hm).mono ?_
  rintro e w4 ⟨v4, rfl, o4, b4⟩
  rw [F2.out] at o4 ⊢
  simp only [frRet] at o4 ⊢
  obtain ⟨A4, c4, rfl, r4⟩ := o4.rd
  have BW4 := Lib.hid (below_then B3.out B3.out.size b4)
  clear o4 r4 b4
  go_wp2_with fail
  refine (works11_calls _).mono ?_
  rintro e w7 ⟨rfl, b7⟩
  have BW7 := Lib.hid (below_then (BW4.out.alloc BW4.out.size _) (by have := BW4.out.size; simp; omega) b7)
  clear b7
  go_wp2
  go_ret
  exact ⟨rfl, BW7.out⟩
set_option maxRecDepth 100000 in
set_option maxHeartbeats 1000000 in
theorem fown_seven (A B : Option Addr) (c d : Nat) (l p : List UInt8) (most : Nat) (w : World) (hl : Rd w A c l) (hp : Rd w B d p) (hm : most ≤ 4294967295) (hb1 : l.length ≤ 8192) (hb2 : p.length ≤ 4096)
    (h1 : fr l most = ⟨7, 0, 0, []⟩) (e2 n2 ch : Nat) (bd : List UInt8) (h2 : fr (l ++ p) most = ⟨e2, n2, ch, bd⟩) (hc : e2 = 7 ∨ e2 = 6 ∨ e2 = 0 ∧ l.length < n2) (hn : n2 ≤ 20000) :
    Calls Try.prog 6 #[.slice A l.length c, .slice B p.length d, .int .u32 most] w fun e w' => e = .returned (.bool true) ∧ Below w.heap.size w w' := by
  have HL := Lib.hid hl
  have HP := Lib.hid hp
  have F1 := Lib.hid h1
  have F2 := Lib.hid h2
  have hlc := hl.len
  clear hl hp h1 h2
  rcases hc with rfl | rfl | ⟨rfl, hc⟩
  all_goals
      go_enter Try.func6, Try.ntmps6
      go_wp2_with fail
      refine (read_calls A c l most _ HL.out hm).mono ?_
      rintro e w1 ⟨v1, rfl, o1, b1⟩
      rw [F1.out] at o1 ⊢
      simp only [frRet] at o1 ⊢
      obtain ⟨A1, c1, rfl, r1⟩ := o1.rd
      have B1 := Lib.hid b1
      clear o1 r1 b1
      go_wp2_with (at_builtin; refine wpList_appB _ rfl _ _ rfl (w1.heap.size + 1) (.slice none 0 0) [] rfl OwnB.nil_ A _ _ l rfl rfl ((HL.out.below B1.out).below (below_alloc w1 _)) ?hb ?hbase ?_)
      case hb => simp; omega
      case hbase => simp
      intro v2 w2 a1 a2 a3 a4
      obtain ⟨A2, c2, rfl, r2⟩ := a1.rd
      have H2 := Lib.hid a1
      have HS2 := Lib.hid (show w1.heap.size + 1 ≤ w2.heap.size by have := a2.size; simp at this; omega)
      have B2 := Lib.hid (below_grown (B1.out.alloc B1.out.size _) (by have := B1.out.size; simp; omega) a2 (fun k hk => by cases hk))
      obtain ⟨L, hL⟩ : ∃ L, l ++ p = L := ⟨_, rfl⟩
      rw [hL] at F2
      have HLL := Lib.hid hL
      clear a1 a2 a3 a4 r2 hL
      go_wp2_with (at_builtin; refine wpList_appB _ rfl _ _ rfl (w1.heap.size + 1) (.slice A2 l.length c2) l rfl H2.out B _ _ p rfl rfl (HP.out.below ?rd) ?hb ?hbase ?_)
      case rd => exact B2.out
      case hb => omega
      case hbase => have := HS2.out; omega
      intro v3 w3 a1 a2 a3 a4
      rw [HLL.out] at a1
      obtain ⟨A3, c3, rfl, r3⟩ := a1.rd
      have R3 := Lib.hid r3
      have B3 := Lib.hid (below_grown B2.out B2.out.size a2 (fun k hk => by have := (H2.out.lt k hk).1; have := B1.out.size; omega))
      clear a1 a2 a3 a4 r3
      go_wp2_with fail
      refine (read_calls A3 c3 L most _ R3.out hm).mono ?_
      rintro e w4 ⟨v4, rfl, o4, b4⟩
      rw [F2.out] at o4 ⊢
      simp only [frRet] at o4 ⊢
      obtain ⟨A4, c4, rfl, r4⟩ := o4.rd
      have BW4 := Lib.hid (below_then B3.out B3.out.size b4)
      clear o4 r4 b4
      go_wp2_with fail
      refine (works11_calls _).mono ?_
      rintro e w7 ⟨rfl, b7⟩
      have BW7 := Lib.hid (below_then (BW4.out.alloc BW4.out.size _) (by have := BW4.out.size; simp; omega) b7)
      clear b7
      go_wp2
      go_ret
      exact ⟨rfl, BW7.out⟩


theorem fown_calls (A B : Option Addr) (c d : Nat) (l p : List UInt8) (m : Int) (w : World) (hl : Rd w A c l) (hp : Rd w B d p) (hm : (Lit.int .u32 m).wf = true) :
    Calls Try.prog 6 #[.slice A l.length c, .slice B p.length d, .int .u32 m] w fun e w' => e = .returned (.bool true) ∧ Below w.heap.size w w' := by
  obtain ⟨h0, h1⟩ := wf_u32 hm
  obtain ⟨most, rfl⟩ := Int.eq_ofNat_of_zero_le h0
  have hm' : most ≤ 4294967295 := by omega
  by_cases hb : 8192 < l.length ∨ 4096 < p.length
  · exact fown_big A B c d l p most w hb
  rcases fr_err l most with e | e | ⟨e, g1, g2, g3, g4⟩
  · rcases fr_err (l ++ p) most with e2 | e2 | ⟨e2, g1, g2, g3, g4⟩
    · exact fown_seven A B c d l p most w hl hp hm' (by omega) (by omega) e 7 0 0 [] e2 (.inl rfl) (by omega)
    · exact fown_seven A B c d l p most w hl hp hm' (by omega) (by omega) e 6 0 0 [] e2 (.inr (.inl rfl)) (by omega)
    · have h := fr_app_seven p e
      rw [e2] at h
      exact fown_seven A B c d l p most w hl hp hm' (by omega) (by omega) e 0 _ _ _ e2 (.inr (.inr ⟨rfl, h.resolve_left (fun hh => hh rfl)⟩)) (by rw [List.length_append] at g4; omega)
  · exact fown_six A B c d l p most w hl hp hm' (by omega) (by omega) e
  · exact fown_ok A B c d l p most w hl hp hm' (by omega) (by omega) g1 g2 g3 g4
end Go.Proofs.Ytkihafkiinhbkaa

import Derived.Test.YtkihafkiinhbkaaApart
import Derived.Test.YtkihafkiinhbkaaFRef
set_option linter.unusedVariables false
set_option linter.unusedSimpArgs false
namespace Go.Proofs.Ytkihafkiinhbkaa
open Go.RowKit

set_option maxHeartbeats 800000 in
theorem fwrites_big (A : Option Addr) (c : Nat) (l : List UInt8) (x : Nat) (w : World) (hb : 16384 < l.length) :
    Calls Try.prog 3 #[.agg #[.int .u16 x, .slice A l.length c]] w fun e w' => e = .returned (.bool true) ∧ Below w.heap.size w w' := by
  go_enter Try.func3, Try.ntmps3
  go_wp2_with fail
  refine (works11_calls _).mono ?_
  rintro e w1 ⟨rfl, h1⟩
  have H1 := Lib.hid (below_then (below_alloc w _) (by simp) h1)
  clear h1
  go_wp2_with fail
  go_ret
  exact ⟨rfl, H1.out⟩

theorem bcell {W w1 : World} (hb : Below W.heap.size W w1) : (∀ b o, b < W.heap.size → w1.cell? ⟨b, o, none⟩ = W.cell? ⟨b, o, none⟩) ∧ (∀ b o, b < W.heap.size → w1.frozen? ⟨b, o, none⟩ = W.frozen? ⟨b, o, none⟩) :=
  ⟨fun b o h => hb.cell (p := ⟨b, o, none⟩) h, fun b o h => hb.frozen (p := ⟨b, o, none⟩) h⟩
theorem MemB.keep {w w' : World} {base : Nat} {v : Value} {l sp : List UInt8} (h : MemB w base v l sp) (hk : ∀ g, base ≤ g → w'.heap[g]? = w.heap[g]?) : MemB w' base v l sp := by
  rcases h with h | ⟨g, e, h0, h1, h2, h3⟩
  · exact .inl h
  · exact .inr ⟨g, e, h0, h1, (hk g h1).trans h2, h3⟩
/-- What is handed to Write: a frame in memory, whose body has room. -/
def FwIn (w : World) (A : Option Addr) (c x : Nat) (l : List UInt8) (s : Value) (wx : World) : Prop :=
  ∃ a r : Nat, s = .pointer (some ⟨a, 0, none⟩) ∧ wx.cell? ⟨a, 0, none⟩ = some (.int .u16 x) ∧ wx.cell? ⟨a, 1, none⟩ = some (.slice (some ⟨r, 0, none⟩) l.length (l.length + 11)) ∧ w.heap.size < a ∧ a < wx.heap.size ∧
    wx.cell? ⟨w.heap.size, 0, none⟩ = some (.int .u16 x) ∧ wx.cell? ⟨w.heap.size, 1, none⟩ = some (.slice A l.length c) ∧
    MemB wx (w.heap.size + 1) (.slice (some ⟨r, 0, none⟩) l.length (l.length + 11)) l (places l.length) ∧ Below w.heap.size w wx

set_option maxRecDepth 100000 in
set_option maxHeartbeats 1000000 in
theorem fwrites_calls (A : Option Addr) (c : Nat) (l : List UInt8) (x : Nat) (w : World) (h : Rd w A c l) (hx : x ≤ 65535) (hb : l.length ≤ 16384) :
    Calls Try.prog 3 #[.agg #[.int .u16 x, .slice A l.length c]] w fun e w' => e = .returned (.bool true) ∧ Below w.heap.size w w' := by
  have HL := Lib.hid h
  have hlc := h.len
  clear h
  go_enter Try.func3, Try.ntmps3
  go_upto_region 3 with fail
  have hc0 : (w.alloc (.cells #[.int .u16 x, .slice A l.length c] 25)).cell? ⟨w.heap.size, 0, none⟩ = some (.int .u16 x) := by go_simp
  have hc1 : (w.alloc (.cells #[.int .u16 x, .slice A l.length c] 25)).cell? ⟨w.heap.size, 1, none⟩ = some (.slice A l.length c) := by go_simp
  go_cut [3] (fun s3 wx => FwIn w A c x l s3 wx)
  case first =>
    go_region_held3 (fun W' => W'.cell? ⟨w.heap.size, 0, none⟩ = some (.int .u16 x) ∧ W'.cell? ⟨w.heap.size, 1, none⟩ = some (.slice A l.length c)) (go_keep)
      (first
        | (go_at_call 15; refine (roomy_calls A c l _ (HL.out.below ?_) (by omega)).mono ?_; (repeat (first | exact Below.refl _ _ | refine Below.drew ?_ | refine Below.alloc ?_ (by simp) _)); rintro e w6 ⟨rfl, o6, b6⟩; (have m0 : w6.cell? ⟨w.heap.size, 0, none⟩ = some (.int .u16 x) := below_keeps b6 (by first | exact hc0 | exact keeps_alloc hc0 _) (by simp <;> omega)); (have m1 : w6.cell? ⟨w.heap.size, 1, none⟩ = some (.slice A l.length c) := below_keeps b6 (by first | exact hc1 | exact keeps_alloc hc1 _) (by simp <;> omega)); obtain ⟨hcc, hff⟩ := bcell b6; have hsz := b6.size; have O6 := Lib.hid o6; have B6 := Lib.hid b6; clear o6 b6))
    · go_wp2_with fail
      go_meet
      have hz0 : (w.alloc (.cells #[.int .u16 x, .slice A l.length c] 25)).drew.heap.size = w.heap.size + 1 := by simp
      have o6 := O6.out
      have b6 := B6.out
      rw [hz0] at o6 b6
      have hs6 := b6.size
      rw [hz0] at hs6
      have n0 := keeps_alloc m0
      have n1 := keeps_alloc m1
      exact ⟨w6.heap.size, w.heap.size + 1, rfl, by simp [World.cell?_alloc_new], by simp [World.cell?_alloc_new], by omega, by simp, n0 _, n1 _, o6.below (below_alloc w6 _), (((below_alloc w _).drew).trans (b6.mono (by omega))).alloc (by omega) _⟩
    · go_wp2_with fail
      go_meet
      obtain ⟨X, hX⟩ : ∃ X, (w.alloc (.cells #[.int .u16 x, .slice A l.length c] 25)) = X := ⟨_, rfl⟩
      have hz0 : ((w.alloc (.cells #[.int .u16 x, .slice A l.length c] 25)).alloc (.cells #[.int .u16 0, .slice none 0 0] 25)).drew.heap.size = w.heap.size + 2 := by simp
      have o6 := O6.out
      have b6 := B6.out
      rw [hz0] at o6 b6
      have hs6 := b6.size
      rw [hz0] at hs6
      have hin : w6.heap[w.heap.size + 1]? = some (.cells #[.int .u16 0, .slice none 0 0] 25 (0, 0)) := by
        refine (b6.block (w.heap.size + 1) (by omega)).trans ?_
        have := heap_alloc_new (w.alloc (.cells #[.int .u16 x, .slice A l.length c] 25)) (.cells #[.int .u16 0, .slice none 0 0] 25)
        have h2 : ((w.alloc (.cells #[.int .u16 x, .slice A l.length c] 25)).alloc (.cells #[.int .u16 0, .slice none 0 0] 25)).heap[w.heap.size + 1]? = some (.cells #[.int .u16 0, .slice none 0 0] 25 (0, 0)) := by simpa using this
        exact h2
      have hset := heap_setCell_same (l := [.int .u16 0, .slice none 0 0]) hin 0 (.int .u16 x)
      have hset2 := heap_setCell_same (l := [.int .u16 x, .slice none 0 0]) hset 1 (.slice (some ⟨w.heap.size + 1 + 1, 0, none⟩) l.length (l.length + 11))
      refine ⟨w.heap.size + 1, w.heap.size + 1 + 1, rfl, ?_, ?_, by omega, by simp; omega, ?_, ?_, o6.keep ?_ |>.base (by omega), ?_⟩
      · exact cell_of_heap hset2 0 _ rfl
      · exact cell_of_heap hset2 1 _ rfl
      · rw [World.cell?_setCell_far _ _ _ _ (by simp), World.cell?_setCell_far _ _ _ _ (by simp)]; exact m0
      · rw [World.cell?_setCell_far _ _ _ _ (by simp), World.cell?_setCell_far _ _ _ _ (by simp)]; exact m1
      · intro g hg
        rw [Below.heap_setCell _ _ _ _ (by simp; omega), Below.heap_setCell _ _ _ _ (by simp; omega)]
      · exact ((((below_alloc w _).trans ((below_alloc _ _).mono (by simp))).drew.trans (b6.mono (by omega))).setCell (by simp) _).setCell (by simp) _
  case rest =>
    obtain ⟨a, r, rfl, i0, i1, ia, il, p0, p1, o1, b1⟩ := hcut
    have O1 := Lib.hid o1
    have B1 := Lib.hid b1
    clear o1 b1 hc0 hc1
    go_wp2_with fail
    refine (write_calls (some ⟨r, 0, none⟩) (l.length + 11) l x _ (by obtain ⟨A0, c0, e0, r0⟩ := O1.out.rd; cases e0; exact r0) hb hx).mono ?_
    rintro e w1 ⟨v1, sp1, rfl, o1, b1⟩
    have hr1 := b1.size
    have z0 := below_keeps b1 i0 (World.block_lt_of_cell? _ _ i0)
    have z1 := below_keeps b1 i1 (World.block_lt_of_cell? _ _ i1)
    have y0 := below_keeps b1 p0 (World.block_lt_of_cell? _ _ p0)
    have y1 := below_keeps b1 p1 (World.block_lt_of_cell? _ _ p1)
    have OW1 := Lib.hid o1
    have BW1 := Lib.hid b1
    have OR1 := Lib.hid (O1.out.below b1)
    clear i0 i1 p0 p1 o1 b1
    go_wp2_with fail
    refine (write_calls (some ⟨r, 0, none⟩) (l.length + 11) l x _ (by obtain ⟨A0, c0, e0, r0⟩ := OR1.out.rd; cases e0; exact r0) hb hx).mono ?_
    rintro e w2 ⟨v2, sp2, rfl, o2, b2⟩
    have hr2 := b2.size
    obtain ⟨A2, c2, rfl, r2⟩ := o2.rd
    clear r2
    have i0 := below_keeps b2 z0 (World.block_lt_of_cell? _ _ z0)
    have i1 := below_keeps b2 z1 (World.block_lt_of_cell? _ _ z1)
    have p0 := below_keeps b2 y0 (World.block_lt_of_cell? _ _ y0)
    have p1 := below_keeps b2 y1 (World.block_lt_of_cell? _ _ y1)
    have OW2 := Lib.hid o2
    have BW2 := Lib.hid b2
    clear z0 z1 y0 y1 o2 b2
    have B2 := Lib.hid (B1.out.trans ((BW1.out.trans (BW2.out.mono BW1.out.size)).mono B1.out.size))
    go_wp2_with fail
    refine (rwrite_calls A c l x _ (HL.out.below B2.out) hb hx).mono ?_
    rintro e w3 ⟨v3, rfl, o3, b3⟩
    have hr3 := b3.size
    have z0 := below_keeps b3 i0 (World.block_lt_of_cell? _ _ i0)
    have z1 := below_keeps b3 i1 (World.block_lt_of_cell? _ _ i1)
    have y0 := below_keeps b3 p0 (World.block_lt_of_cell? _ _ p0)
    have y1 := below_keeps b3 p1 (World.block_lt_of_cell? _ _ p1)
    obtain ⟨A3, c3, rfl, r3⟩ := o3.rd
    obtain ⟨A1, c1, rfl, r1⟩ := OW1.out.rd
    have R3 := Lib.hid r3
    have R1 := Lib.hid (r1.below (BW2.out.trans (b3.mono BW2.out.size)))
    have B3 := Lib.hid b3
    clear i0 i1 p0 p1 o3 b3 r3 r1
    go_wp2_with fail
    refine (eq_calls A1 A3 c1 c3 (fw x l) (fw x l) _ R1.out R3.out).mono ?_
    rintro e w4 ⟨rfl, rfl⟩
    rw [decide_eq_true rfl]
    have B13 := Lib.hid ((BW1.out.trans (BW2.out.mono BW1.out.size)).trans (B3.out.mono (by omega)))
    have B23 := Lib.hid (BW2.out.trans (B3.out.mono BW2.out.size))
    have BA3 := Lib.hid (B1.out.trans (B13.out.mono B1.out.size))
    go_wp2_with fail
    refine (kept_calls r (w.heap.size + 1) A c l _ (O1.out.below B13.out) (HL.out.below BA3.out) (by omega)).mono ?_
    rintro e w5 ⟨rfl, rfl⟩
    go_wp2_with fail
    have hgr : r < wc.heap.size := by
      rcases O1.out with ⟨e, _⟩ | ⟨g, e', e, h1, h2, h3⟩
      · cases e
      · cases e; exact heap_lt h2
    have hg1 : ∀ k, A1 = some k → wc.heap.size ≤ k.block ∧ k.block < w1.heap.size := by
      rintro k rfl
      rcases OW1.out with ⟨e, _⟩ | ⟨g, e', e, h1, h2, h3⟩
      · cases e
      · cases e; exact ⟨h1, heap_lt h2⟩
    have hg2 : ∀ k, A2 = some k → w1.heap.size ≤ k.block := by
      rintro k rfl
      rcases OW2.out with ⟨e, _⟩ | ⟨g, e', e, h1, h2, h3⟩
      · cases e
      · cases e; exact h1
    have hap := Apt.of_cells (w := w3.alloc (.cells #[.slice A1 (fw x l).length c1, .slice A2 (fw x l).length c2, .slice (some ⟨r, 0, none⟩) l.length (l.length + 11)] 23)) (g := w3.heap.size) (e := 23) (fr := (0, 0)) [⟨A1, c1, fw x l⟩, ⟨A2, c2, fw x l⟩, ⟨some ⟨r, 0, none⟩, l.length + 11, l⟩]
      (heap_alloc_new w3 _) (by simp) (by
        intro t ht
        simp only [List.mem_cons, List.not_mem_nil, or_false] at ht
        rcases ht with rfl | rfl | rfl
        · exact ⟨_, _, OW1.out.below (B23.out.trans ((below_alloc w3 _).mono B23.out.size))⟩
        · exact ⟨_, _, OW2.out.below (B3.out.trans ((below_alloc w3 _).mono B3.out.size))⟩
        · exact ⟨_, _, O1.out.below (B13.out.trans ((below_alloc w3 _).mono B13.out.size))⟩) (by
        intro i k hi hk hik p q hp hq
        simp only [List.length_cons, List.length_nil] at hi hk
        have hne : ∀ p q : Addr, (A1 = some p ∧ A2 = some q) ∨ (A1 = some p ∧ q = ⟨r, 0, none⟩) ∨ (A2 = some p ∧ q = ⟨r, 0, none⟩) → p.block ≠ q.block := by
          rintro p q (⟨h1, h2⟩ | ⟨h1, rfl⟩ | ⟨h1, rfl⟩)
          · have := hg1 p h1; have := hg2 q h2; omega
          · have := hg1 p h1; show p.block ≠ r; omega
          · have := hg2 p h1; show p.block ≠ r; omega
        obtain ⟨rfl, rfl⟩ | ⟨rfl, rfl⟩ | ⟨rfl, rfl⟩ | ⟨rfl, rfl⟩ | ⟨rfl, rfl⟩ | ⟨rfl, rfl⟩ : i = 0 ∧ k = 1 ∨ i = 0 ∧ k = 2 ∨ i = 1 ∧ k = 2 ∨ i = 1 ∧ k = 0 ∨ i = 2 ∧ k = 0 ∨ i = 2 ∧ k = 1 := by omega
        · exact (hne p q (.inl ⟨hp, hq⟩)).symm
        · exact (hne p q (.inr (.inl ⟨hp, (Option.some.inj hq).symm⟩))).symm
        · exact (hne p q (.inr (.inr ⟨hp, (Option.some.inj hq).symm⟩))).symm
        · exact hne q p (.inl ⟨hq, hp⟩)
        · exact hne q p (.inr (.inl ⟨hq, (Option.some.inj hp).symm⟩))
        · exact hne q p (.inr (.inr ⟨hq, (Option.some.inj hp).symm⟩)))
    clear hg1 hg2 z0 z1 y0 y1
    refine (apart_calls _ _ _ _ hap (by simp)).mono ?_
    rintro e w5 ⟨rfl, b5⟩
    have BW5 := Lib.hid (BA3.out.trans (((below_alloc w3 _).trans (b5.mono (by simp))).mono BA3.out.size))
    clear b5 hap
    go_wp2_with fail
    refine (works11_calls _).mono ?_
    rintro e w6 ⟨rfl, b6⟩
    have B6 := Lib.hid b6
    clear b6
    go_wp2_with fail
    go_ret
    exact ⟨rfl, below_then BW5.out BW5.out.size B6.out⟩

theorem fwritesAll_calls (A : Option Addr) (c : Nat) (l : List UInt8) (x : Nat) (w : World) (h : Rd w A c l) (hx : x ≤ 65535) :
    Calls Try.prog 3 #[.agg #[.int .u16 x, .slice A l.length c]] w fun e w' => e = .returned (.bool true) ∧ Below w.heap.size w w' := by
  by_cases hb : 16384 < l.length
  · exact fwrites_big A c l x w hb
  · exact fwrites_calls A c l x w h hx (by omega)
end Go.Proofs.Ytkihafkiinhbkaa

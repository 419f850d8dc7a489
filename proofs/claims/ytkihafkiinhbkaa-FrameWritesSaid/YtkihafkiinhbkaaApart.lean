import Derived.Test.YtkihafkiinhbkaaMeet
import Derived.Deep.RegionHeld3
set_option linter.unusedVariables false
set_option linter.unusedSimpArgs false
namespace Go.Proofs.Ytkihafkiinhbkaa
open Go.RowKit

set_option maxHeartbeats 800000 in
theorem meet_nil (B : Option Addr) (d : Nat) (m : List UInt8) (w : World) (hr : Rd w B d m) :
    Calls Try.prog 37 #[.slice none 0 0, .slice B m.length d] w fun e w' => e = .returned (.bool false) ∧ w = w' := by
  have s1 : (convert 23 9 (.slice B m.length d)).run Try.prog w = .ok (.string ⟨m.toArray⟩) w := conv_bytes hr
  obtain ⟨S, hS⟩ : ∃ S : ByteArray, (⟨m.toArray⟩ : ByteArray) = S := ⟨_, rfl⟩
  obtain ⟨k0, hk0⟩ : ∃ k0, m.length = k0 := ⟨_, rfl⟩
  rw [hS, hk0] at s1
  rw [hk0]
  clear hr hS hk0
  go_enter Try.func37, Try.ntmps37
  go_wp2_with fail
  refine wp_loop_rounds 1 ?_
  rw [rounds_succ]
  go_wp2_with fail
  refine wp_loop_rounds 1 ?_
  rw [rounds_succ]
  go_wp2_with fail
  go_ret
  exact ⟨rfl, rfl⟩

/-- A row of bytes as it lies in a slice of rows. -/
structure RowAt where
  A : Option Addr
  c : Nat
  l : List UInt8
/-- A slice value reads as rows that lie apart from each other, each with all of its room. -/
structure Apt (w : World) (A : Option Addr) (c : Nat) (rs : List RowAt) : Prop where
  le : rs.length ≤ c
  max : c ≤ 9223372036854775807
  at_ : ∀ (i : Nat) (hi : i < rs.length), ∃ b o, A = some ⟨b, o, none⟩ ∧ w.cell? ⟨b, o + i, none⟩ = some (.slice (rs[i]).A (rs[i]).l.length (rs[i]).c) ∧ Rd w (rs[i]).A (rs[i]).c (rs[i]).l ∧
    ((rs[i]).A = none ∨ ∃ g e F, (rs[i]).A = some ⟨g, 0, none⟩ ∧ Cs w g e F ∧ F.length = (rs[i]).c ∧ (rs[i]).c ≤ 9223372036854775807)
  apart : ∀ (i k : Nat) (hi : i < rs.length) (hk : k < rs.length), i ≠ k → ∀ a b, (rs[i]).A = some a → (rs[k]).A = some b → b.block ≠ a.block
theorem Apt.below {w w' : World} {A : Option Addr} {c : Nat} {rs : List RowAt} (h : Apt w A c rs) (hb : Below w.heap.size w w') : Apt w' A c rs :=
  ⟨h.le, h.max, fun i hi => by
    obtain ⟨b, o, h1, h2, h3, h4⟩ := h.at_ i hi
    refine ⟨b, o, h1, below_keeps hb h2 (World.block_lt_of_cell? _ _ h2), h3.below hb, h4.imp id fun ⟨g, e, F, k1, k2, k3, k4⟩ => ⟨g, e, F, k1, ?_, k3, k4⟩⟩
    exact (hb.block g (heap_lt k2)).trans k2, h.apart⟩

/-- The memory of one row, turned, is not another row's. -/
theorem meet_rows {w : World} {A : Option Addr} {c : Nat} {rs : List RowAt} (h : Apt w A c rs) (i k : Nat) (hi : i < rs.length) (hk : k < rs.length) (hne : i ≠ k) :
    Calls Try.prog 37 #[.slice (rs[i]).A (rs[i]).c (rs[i]).c, .slice (rs[k]).A (rs[k]).l.length (rs[k]).c] w fun e w' => e = .returned (.bool false) ∧ Below w.heap.size w w' := by
  obtain ⟨b, o, _, _, r1, h4⟩ := h.at_ i hi
  obtain ⟨_, _, _, _, r2, _⟩ := h.at_ k hk
  rcases h4 with h4 | ⟨g, e, F, k1, k2, k3, k4⟩
  · have hz := (r1.nil_ h4).2
    rw [h4, hz]
    exact (meet_nil _ _ _ w r2).mono fun _ _ ⟨q1, q2⟩ => ⟨q1, q2 ▸ Below.refl _ _⟩
  · have hap := h.apart i k hi hk hne
    rw [k1] at hap ⊢
    rw [← k3]
    exact meet_calls g e F _ _ _ w k2 r2 (fun ad ha => hap _ ad rfl ha) (by omega)

theorem meet_rows_drew {w : World} {A : Option Addr} {c : Nat} {rs : List RowAt} (h : Apt w A c rs) (i k : Nat) (x y : RowAt) (hi : rs[i]? = some x) (hk : rs[k]? = some y) (hne : i ≠ k) :
    Calls Try.prog 37 #[.slice x.A x.c x.c, .slice y.A y.l.length y.c] w.drew fun e w' => e = .returned (.bool false) ∧ Below w.heap.size w w' := by
  obtain ⟨h1, rfl⟩ := List.getElem?_eq_some_iff.1 hi
  obtain ⟨h2, rfl⟩ := List.getElem?_eq_some_iff.1 hk
  exact (meet_rows (h.below (Below.refl _ _).drew) i k h1 h2 hne).mono fun _ _ ⟨q1, q2⟩ => ⟨q1, below_of_drew q2⟩
theorem slice_cap (A : Option Addr) (n c : Nat) (h : n ≤ c) (W : World) : (Instr.slice 23 (.slice A n c) none (some (.int .i64 (c : Int))) none).run Try.prog W = .ok (.slice A c c) W := by
  rw [run_slice_h W 23 A n c Try.underlying23 .i64 c (by omega) (by omega), size_u8]
  simp [Result.andThen, sliced]
  intro _
  cases A <;> rfl

set_option maxRecDepth 100000 in
set_option maxHeartbeats 1000000 in
theorem apart_calls (A : Option Addr) (c : Nat) (rs : List RowAt) (w : World) (h : Apt w A c rs) (hb : rs.length ≤ 10) :
    Calls Try.prog 20 #[.slice A rs.length c] w fun e w' => e = .returned (.bool true) ∧ Below w.heap.size w w' := by
  have HA := Lib.hid h
  have hlc := h.le
  have hmx := h.max
  obtain ⟨n, hn⟩ : ∃ n, rs.length = n := ⟨_, rfl⟩
  have HN := Lib.hid hn
  rw [hn] at hb hlc ⊢
  clear h hn
  go_enter Try.func20, Try.ntmps20
  go_wp2_with fail
  go_loopw [3, 4] (fun i _ wr => ∃ a : Nat, a ≤ n ∧ i = .int .i64 a ∧ Below w.heap.size w wr) (fun i _ _ => n - (intOf i).toNat)
  case atStart => exact ⟨0, by omega, rfl, Below.refl _ _⟩
  case round =>
    obtain ⟨a, ha, rfl, hbl⟩ := hrel
    have HB := Lib.hid hbl
    clear hbl
    by_cases han : a < n
    · have han' : (a : Int) < n := by omega
      go_wp2_with fail
      go_loopw [4] (fun i wq => ∃ k : Nat, k ≤ n ∧ i = .int .i64 k ∧ Below w.heap.size w wq) (fun i _ => n - (intOf i).toNat)
      case atStart => exact ⟨0, by omega, rfl, HB.out⟩
      case round =>
        obtain ⟨k, hk, rfl, hbl⟩ := hrel
        by_cases hkn : k < n
        · have hkn' : (k : Int) < n := by omega
          have HAq := Lib.hid (HA.out.below hbl)
          have HB2 := Lib.hid hbl
          by_cases hak : a = k
          · have hak' : ((a : Int) != (k : Int)) = false := by subst hak; simp
            clear hbl hak
            go_wp2_with fail
            go_region
            go_wp2
            go_roundw
            case rel => exact ⟨k + 1, by omega, by go_num, HB2.out.drew⟩
            case measure => simp [intOf]; omega
          · have hak' : ((a : Int) != (k : Int)) = true := by simp; omega
            have hk1 : ((a : Int) == (k : Int)) = false := by simp; omega
            have hk3 : (a != k) = true := by simpa using hak
            have hk4 : (a == k) = false := by simpa using hak
            have hk5 : decide ((a : Int) = (k : Int)) = false := by simp; omega
            have hk6 : decide (a = k) = false := by simpa using hak
            have hk7 : ¬ ((a : Int) = (k : Int)) := by omega
            obtain ⟨x, hx⟩ : ∃ x, rs[a]? = some x := ⟨_, List.getElem?_eq_getElem (by rw [HN.out]; exact han)⟩
            obtain ⟨y, hy⟩ : ∃ y, rs[k]? = some y := ⟨_, List.getElem?_eq_getElem (by rw [HN.out]; exact hkn)⟩
            obtain ⟨b0, o0, hA, g1, gr, _⟩ := HAq.out.at_ a (by rw [HN.out]; exact han)
            obtain ⟨b1, o1, hA', g2, _, _⟩ := HAq.out.at_ k (by rw [HN.out]; exact hkn)
            have hMt := meet_rows_drew HAq.out a k x y hx hy hak
            have HM := Lib.hid hMt
            obtain ⟨_, ex⟩ := List.getElem?_eq_some_iff.1 hx
            obtain ⟨_, ey⟩ := List.getElem?_eq_some_iff.1 hy
            rw [ex] at g1 gr
            rw [ey] at g2
            have hxc := gr.len
            subst hA
            cases hA'
            clear hbl hx hy ex ey gr hMt
            have hsl := slice_cap x.A x.l.length x.c hxc.1
            go_wp2_with fail
            go_region_held3 (fun W' => W'.cell? ⟨b0, o0 + a, none⟩ = some (.slice x.A x.l.length x.c) ∧ W'.cell? ⟨b0, o0 + k, none⟩ = some (.slice y.A y.l.length y.c)) (go_keep)
              (first
                | (go_at_call 37; refine HM.out.mono ?_; rintro e w6 ⟨rfl, b6⟩; have m0 := below_keeps b6 g1 (World.block_lt_of_cell? _ _ g1); have m1 := below_keeps b6 g2 (World.block_lt_of_cell? _ _ g2); have B6 := Lib.hid b6; clear b6))
            go_wp2
            go_roundw
            case rel => exact ⟨k + 1, by omega, by go_num, below_then HB2.out HB2.out.size B6.out⟩
            case measure => simp [intOf]; omega
        · obtain rfl : k = n := by omega
          go_wp2_with fail
          exact ⟨⟨a + 1, by omega, by go_num, hbl⟩, by simp [intOf]; omega⟩
    · obtain rfl : a = n := by omega
      go_wp2_with fail
      go_ret
      exact ⟨rfl, HB.out⟩
/-- A literal of rows, each in memory of its own. -/
theorem Apt.of_cells {w : World} {g : Nat} {e : TypeId} {fr : Nat × Nat} (rs : List RowAt) (hc : w.heap[g]? = some (.cells (rs.map fun r => Value.slice r.A r.l.length r.c).toArray e fr)) (hn : rs.length ≤ 1000)
    (hm : ∀ r ∈ rs, ∃ base sp, MemB w base (.slice r.A r.l.length r.c) r.l sp)
    (hap : ∀ (i k : Nat) (hi : i < rs.length) (hk : k < rs.length), i ≠ k → ∀ a b, (rs[i]).A = some a → (rs[k]).A = some b → b.block ≠ a.block) : Apt w (some ⟨g, 0, none⟩) rs.length rs := by
  refine ⟨Nat.le_refl _, by omega, fun i hi => ⟨g, 0, rfl, ?_, ?_, ?_⟩, hap⟩
  · rw [Nat.zero_add]
    exact cell_of_heap hc i _ (by rw [List.getElem?_map, List.getElem?_eq_getElem hi]; rfl)
  · obtain ⟨base, sp, h⟩ := hm _ (List.getElem_mem hi)
    obtain ⟨A, c, e1, h1⟩ := h.rd
    cases e1
    exact h1
  · obtain ⟨base, sp, h⟩ := hm _ (List.getElem_mem hi)
    rcases h with ⟨e1, _⟩ | ⟨g', e', e1, h1, h2, h3⟩
    · left; simp only [Value.slice.injEq] at e1; exact e1.1
    · right
      simp only [Value.slice.injEq] at e1
      exact ⟨g', e', (rs[i]).l ++ sp, e1.1, h2, by rw [List.length_append]; exact e1.2.2.symm, by rw [e1.2.2]; exact h3⟩
end Go.Proofs.Ytkihafkiinhbkaa

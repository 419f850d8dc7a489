import Derived.Test.YtmeljnohkhkfmaaCopy
import Derived.Deep.RegionHeld
set_option linter.unusedVariables false
set_option linter.unusedSimpArgs false
namespace Go.Proofs.Ytmeljnohkhkfmaa
open Go.RowKit

/-- What stands behind a roomy row: its places. -/
def places (n : Nat) : List UInt8 := (List.range 11).map fun j => UInt8.ofNat (3 * (n + j))
theorem places_length (n : Nat) : (places n).length = 11 := by simp [places]

/-- A row that is being filled. -/
def filled (l : List UInt8) (k : Nat) : List UInt8 := (l ++ places l.length).take k ++ List.replicate (l.length + 11 - k) 0
theorem filled_length (l : List UInt8) (k : Nat) (h : k ≤ l.length + 11) : (filled l k).length = l.length + 11 := by
  simp [filled, places_length]
  omega
theorem filled_set (l : List UInt8) (k : Nat) (h : k < l.length + 11) (x : UInt8) (hx : (l ++ places l.length)[k]? = some x) : (filled l k).set k x = filled l (k + 1) := by
  have hl : ((l ++ places l.length).take k).length = k := by rw [List.length_take, List.length_append, places_length]; omega
  obtain ⟨hk, rfl⟩ := List.getElem?_eq_some_iff.1 hx
  rw [filled, filled, List.set_append_right _ _ (by omega), hl, Nat.sub_self, List.take_succ_eq_append_getElem hk, List.append_assoc]
  congr 1
  rw [show l.length + 11 - k = (l.length + 11 - (k + 1)) + 1 by omega, List.replicate_succ, List.set_cons_zero]
  rfl
theorem filled_all (l : List UInt8) : filled l (l.length + 11) = l ++ places l.length := by
  rw [filled, Nat.sub_self, List.replicate_zero, List.append_nil, List.take_of_length_le (by rw [List.length_append, places_length]; omega)]

set_option maxRecDepth 100000 in
set_option maxHeartbeats 800000 in
theorem roomy_calls (A : Option Addr) (c : Nat) (l : List UInt8) (w : World) (h : Rd w A c l) (hb : l.length ≤ 20000) :
    Calls Try.prog 13 #[.slice A l.length c] w fun e w' => e = .returned (.slice (some ⟨w.heap.size, 0, none⟩) l.length (l.length + 11)) ∧ MemB w' w.heap.size (.slice (some ⟨w.heap.size, 0, none⟩) l.length (l.length + 11)) l (places l.length) ∧ Below w.heap.size w w' := by
  have H1 := Lib.hid h
  obtain ⟨n, hn⟩ : ∃ n, l.length = n := ⟨_, rfl⟩
  have hm := make_bytes (n + 11) (n + 11) ((n : Int) + 11) ((n : Int) + 11) (by omega) (by omega) (by omega) (by omega)
  have ho : OwnB (w.alloc (.cells (u8s (List.replicate (n + 11) 0)).toArray 5)) w.heap.size (.slice (some ⟨w.heap.size, 0, none⟩) (n + 11) (n + 11)) (filled l 0) := by
    have := OwnB.made (w := w.alloc (.cells (u8s (List.replicate (n + 11) 0)).toArray 5)) (base := w.heap.size) (g := w.heap.size) (cap := n + 11) (l := filled l 0) (sp := []) (Nat.le_refl _) (by
      have h0 := heap_alloc_new w (.cells (u8s (List.replicate (n + 11) 0)).toArray 5)
      rw [show filled l 0 ++ [] = List.replicate (n + 11) 0 by simp [filled, hn]]
      exact h0) (by rw [filled_length l 0 (by omega), hn]; rfl) (by omega)
    rw [filled_length l 0 (by omega), hn] at this
    exact this
  have HO := Lib.hid ho
  have HN := Lib.hid hn
  have hlc := h.len
  rw [hn] at hb hlc ⊢
  clear h hn ho
  obtain ⟨Z, hZ⟩ : ∃ Z, (u8s (List.replicate (n + 11) 0)).toArray = Z := ⟨_, rfl⟩
  rw [hZ] at hm HO
  clear hZ
  go_enter Try.func13, Try.ntmps13
  go_wp2_with fail
  go_loopw [5] (fun i wr => ∃ k : Nat, k ≤ n + 11 ∧ i = .int .i64 k ∧ OwnB wr w.heap.size (.slice (some ⟨w.heap.size, 0, none⟩) (n + 11) (n + 11)) (filled l k) ∧ Below w.heap.size w wr) (fun i _ => n + 11 - (intOf i).toNat)
  case atStart => exact ⟨0, by omega, rfl, HO.out, below_alloc w _⟩
  case round =>
    obtain ⟨k, hk, rfl, ho, hbl⟩ := hrel
    have HOk := Lib.hid ho
    have HB := Lib.hid hbl
    by_cases hk2 : k < n + 11
    · have hfl := filled_length l k (by rw [HN.out]; exact hk)
      obtain ⟨hc, hf⟩ := ho.cell_at k (by rw [hfl, HN.out]; exact hk2)
      obtain ⟨y, hy⟩ : ∃ y : Int, w.heap.size = w.heap.size ∧ wr.cell? ⟨w.heap.size, k, none⟩ = some (.int .u8 y) := ⟨_, rfl, hc⟩
      have hy2 := hy.2
      by_cases hkn : k < n
      · have hkl : k < l.length := by rw [HN.out]; exact hkn
        obtain ⟨b, o, rfl, hcs⟩ := (H1.out.below hbl).plain (by omega)
        obtain ⟨b', o', e, hcs0⟩ := H1.out.plain (by omega)
        cases e
        have hbs := World.block_lt_of_cell? _ _ (hcs0 k hkl)
        obtain ⟨x, hx⟩ : ∃ x, l[k]? = some x := ⟨_, List.getElem?_eq_getElem hkl⟩
        have hck : wr.cell? ⟨b, o + k, none⟩ = some (.int .u8 (x.toNat : Int)) := by
          obtain ⟨_, rfl⟩ := List.getElem?_eq_some_iff.1 hx
          exact hcs k hkl
        have hck2 : ∀ u, (wr.setCell ⟨w.heap.size, k, none⟩ u).cell? ⟨b, o + k, none⟩ = some (.int .u8 (x.toNat : Int)) := fun u => by
          rw [World.cell?_setCell_far _ _ _ _ (by simp at hbs; simp; omega)]; exact hck
        have hxb := x.toNat_lt
        have HX := Lib.hid (show (l ++ places l.length)[k]? = some x by rw [List.getElem?_append_left hkl]; exact hx)
        have hkn' : (k : Int) < n := by omega
        clear ho hbl hc hfl hcs hcs0 hx hck hy hkl
        go_wp2_with fail
        have hkF : k < (filled l k).length := by rw [filled_length l k (by rw [HN.out]; exact hk), HN.out]; exact hk2
        have q1 := HOk.out.set k hkF (UInt8.ofNat (3 * k)) (3 * (k : Int) % 256) (by simp)
        have q2 := q1.set k (by rw [List.length_set]; exact hkF) x (x.toNat : Int) rfl
        rw [List.set_set, filled_set l k (by rw [HN.out]; exact hk2) x HX.out] at q2
        exact ⟨⟨k + 1, by omega, by go_num, q2, (HB.out.setCell (by simp) _).setCell (by simp) _⟩, by simp [intOf]; omega⟩
      · have hkn' : ¬ ((k : Int) < n) := by omega
        clear ho hbl hc hfl hy
        go_wp2_with fail
        have hkF : k < (filled l k).length := by rw [filled_length l k (by rw [HN.out]; exact hk), HN.out]; exact hk2
        have q1 := HOk.out.set k hkF (UInt8.ofNat (3 * k)) (3 * (k : Int) % 256) (by simp)
        rw [filled_set l k (by rw [HN.out]; exact hk2) _ (by
          have hln := HN.out
          rw [List.getElem?_append_right (by omega), places, List.getElem?_map, List.getElem?_range (by omega)]
          simp only [Option.map_some]
          congr 2
          omega)] at q1
        exact ⟨⟨k + 1, by omega, by go_num, q1, HB.out.setCell (by simp) _⟩, by simp [intOf]; omega⟩
    · obtain rfl : k = n + 11 := by omega
      go_wp2_with fail
      go_ret
      have hfin := HOk.out
      rw [← HN.out, filled_all] at hfin
      rcases hfin.open_ with ⟨e, _⟩ | ⟨g, cap, sp, e, h1, h2, h3, h4⟩
      · cases e
      · simp only [Value.slice.injEq, Option.some.injEq, Addr.mk.injEq, true_and, and_true] at e
        obtain ⟨rfl, e1, rfl⟩ := e
        rw [List.length_append, places_length] at h3
        have : sp = [] := List.eq_nil_of_length_eq_zero (by omega)
        subst this
        rw [List.append_nil] at h2
        refine ⟨rfl, .inr ⟨w.heap.size, 5, ?_, h1, ?_, ?_⟩, HB.out⟩
        · rw [places_length, HN.out]
        · rw [← HN.out]; exact h2
        · rw [places_length]; omega
end Go.Proofs.Ytmeljnohkhkfmaa

import Derived.Test.YtmeljnohkhkfmaaFwLaw
import Derived.Laws.MakeOwn
set_option linter.unusedVariables false
set_option linter.unusedSimpArgs false
namespace Go.Proofs.Ytmeljnohkhkfmaa
open Go.RowKit

theorem made_u8 (c : Nat) : madeCells (Value.int .u8 0).cells c = (u8s (List.replicate c 0)).toArray := by
  have hz : (Value.int .u8 0).cells = #[u8 0] := rfl
  rw [hz]
  apply Array.ext
  · simp [size_madeCells, u8s]
  · intro j h1 h2
    simp [madeCells, u8s, Nat.mod_one]
/-- New bytes. -/
theorem make_bytes (l c : Nat) (z z' : Int) (hz : z = l) (hz' : z' = c) (hlc : l ≤ c) (hc : c ≤ 1000000) (w : World) :
    (Instr.makeSlice 24 (.int .i64 z) (.int .i64 z')).run Try.prog w = .ok (.slice (some ⟨w.heap.size, 0, none⟩) l c) (w.alloc (.cells (u8s (List.replicate c 0)).toArray 5)) := by
  subst hz hz'
  obtain ⟨i, hi, hz, hz1, hz2⟩ := info_parts Try.info_u8
  have := run_makeSlice (P := Try.prog) w 24 5 i (.int .u8 0) Try.underlying24 hi hz .i64 .i64 l c (by omega) (by omega) (by rw [hz1]; simp; omega) (by rw [hz2]; omega) (by omega)
  rw [this, hz1, Nat.mul_one, made_u8]
  simp

set_option maxHeartbeats 800000 in
theorem copy_calls (A : Option Addr) (c : Nat) (l : List UInt8) (w : World) (h : Rd w A c l) (hb : l.length ≤ 20000) :
    Calls Try.prog 43 #[.slice A l.length c] w fun e w' => ∃ v, e = .returned v ∧ OwnB w' w.heap.size v l ∧ Below w.heap.size w w' := by
  have H1 := Lib.hid h
  have hm := make_bytes 0 l.length 0 l.length rfl rfl (by omega) (by omega)
  have ho : OwnB (w.alloc (.cells (u8s (List.replicate l.length 0)).toArray 5)) w.heap.size (.slice (some ⟨w.heap.size, 0, none⟩) 0 l.length) [] :=
    OwnB.made (l := []) (sp := List.replicate l.length 0) (Nat.le_refl _) (heap_alloc_new w _) (by simp) (by omega)
  have HO := Lib.hid ho
  obtain ⟨n, hn⟩ : ∃ n, l.length = n := ⟨_, rfl⟩
  have HN := Lib.hid hn
  rw [hn] at hb hm HO ⊢
  have hlc := h.len
  rw [hn] at hlc
  clear h hn ho
  obtain ⟨Z, hZ⟩ : ∃ Z, (u8s (List.replicate n 0)).toArray = Z := ⟨_, rfl⟩
  rw [hZ] at hm HO
  clear hZ
  go_enter Try.func43, Try.ntmps43
  go_wp2_with fail
  go_loopw [3, 4] (fun v i wr => ∃ k : Nat, k ≤ n ∧ i = .int .i64 k ∧ OwnB wr w.heap.size v (l.take k) ∧ Below w.heap.size w wr) (fun _ i _ => n - (intOf i).toNat)
  case atStart => exact ⟨0, by omega, rfl, HO.out, below_alloc w _⟩
  case round =>
    obtain ⟨k, hk, rfl, ho, hbl⟩ := hrel
    have HOk := Lib.hid ho
    have HB := Lib.hid hbl
    clear ho hbl
    by_cases hkn : k < n
    · have hkn' : k < l.length := by rw [HN.out]; exact hkn
      obtain ⟨ad, rfl, hc⟩ := (H1.out.below HB.out).at_ k hkn'
      have hu := l[k].toNat_lt
      have HT := Lib.hid (take_succ' l k hkn')
      have HL := Lib.hid hkn'
      go_wp2_with (at_builtin; refine wpList_appB _ rfl _ _ rfl w.heap.size _ (l.take k) rfl ?own (some ⟨wr.heap.size, 0, none⟩) _ _ [l[k]'hkn'] rfl rfl ?rd ?hb ?hbase ?_)
      case own => exact HOk.out.alloc _
      case rd => exact rd_one rfl
      case hb => simp; omega
      case hbase => have := HB.out.size; simp; omega
      intro v1 w2 h1 h2 h3 h4
      try rw [← HT.out] at h1
      have H1' := Lib.hid h1
      have H2' := Lib.hid (below_grown (HB.out.alloc HB.out.size _) (by have := HB.out.size; simp; omega) h2 (fun k hk => (HOk.out.lt k hk).1))
      clear h1 h2 h3 h4
      go_wp2
      go_roundw
      case rel => exact ⟨k + 1, by omega, by go_num, H1'.out, H2'.out⟩
      case measure => simp [intOf]; omega
    · obtain rfl : k = n := by omega
      go_wp2
      go_ret
      have := HOk.out
      rw [← HN.out, List.take_length] at this
      exact ⟨_, rfl, this, HB.out⟩
end Go.Proofs.Ytmeljnohkhkfmaa

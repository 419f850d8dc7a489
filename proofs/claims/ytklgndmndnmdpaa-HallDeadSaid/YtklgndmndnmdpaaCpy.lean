import Derived.Test.YtklgndmndnmdpaaByt
import Derived.Laws.MakeOwn
set_option linter.unusedVariables false
set_option linter.unusedSimpArgs false
namespace Go.Proofs.Ytklgndmndnmdpaa
open Go.RowKit

theorem eql_nil (A : Option Addr) (n c : Nat) (W : World) : (binOp .eql 39 (.slice A n c) (.slice none 0 0)).run Try.prog W = .ok (.bool A.isNone) W :=
  Lib.run_eql_slice_nil W _ _ _ _ _ _ _ Try.underlying39

/-- A new block, all of it behind the length. -/
theorem OwnB.new {w : World} {base : Nat} (hb : base ≤ w.heap.size) : OwnB (w.alloc (.cells #[] 5)) base (.slice (some ⟨w.heap.size, 0, none⟩) 0 0) [] :=
  OwnB.made (l := []) (sp := []) hb (heap_alloc_new w _) rfl (by omega)
theorem size_alloc (w : World) (o : Obj) : (w.alloc o).heap.size = w.heap.size + 1 := by simp
theorem pw_drewN {B : Nat} {a w : World} (h : Below B a w) (n : Nat) : Below B a (w.drewN n) := ⟨h.os, h.tape, h.output, h.size, h.block⟩
theorem below_grown {B : Nat} {w w1 w2 : World} {row : Option Nat} (h : Below B w w1) (hB : B ≤ w1.heap.size) (hg : w1.grownBy w2 row) (hr : ∀ k, row = some k → B ≤ k) : Below B w w2 := h.grown hg hB hr

/-- What an append of one element lays ahead of itself. -/
theorem rd_one {w : World} {b : UInt8} {z : Int} (h : z = (b.toNat : Int)) : Rd (w.alloc (.cells #[.int .u8 z] 5)) (some ⟨w.heap.size, 0, none⟩) 1 [b] := by
  refine ⟨rfl, Nat.le_refl 1, by decide, (fun hh => by cases hh), u8s_one [b], fun ad ha j u hj => ?_⟩
  cases ha
  rw [plain_add]
  have hh := heap_alloc_new w (.cells #[.int .u8 z] 5)
  subst h
  exact cell_of_heap (l := u8s [b]) hh _ u (by rw [Nat.zero_add]; exact hj)

set_option maxRecDepth 100000 in
set_option maxHeartbeats 400000 in
theorem clone_calls (A : Option Addr) (c : Nat) (l : List UInt8) (w : World) (h : Rd w A c l) (hb : l.length ≤ 140737488351232) :
    Calls Try.prog 83 #[.slice A l.length c] w fun e w' => ∃ v, e = .returned v ∧ OwnB w' w.heap.size v l ∧ Below w.heap.size w w' ∧ (v = .slice none 0 0 ↔ A = none) := by
  cases A with
  | none =>
    obtain ⟨rfl, rfl⟩ := h.nil_ rfl
    have hn := eql_nil none 0 0
    go_enter Try.func83, Try.ntmps83
    go_wp2
    go_ret
    exact ⟨_, rfl, OwnB.nil_, Below.refl _ _, by simp⟩
  | some ad =>
    have hn := eql_nil (some ad) l.length c
    have HR := Lib.hid h
    clear h
    go_enter Try.func83, Try.ntmps83
    go_wp2_with (at_builtin; refine wpList_appB _ rfl _ _ rfl w.heap.size (.slice (some ⟨w.heap.size, 0, none⟩) 0 0) [] rfl ?own (some ad) _ _ l rfl rfl ?rd ?hb ?hbase ?_)
    case own => exact OwnB.new (Nat.le_refl _)
    case rd => exact HR.out.below (below_alloc _ _)
    case hb => simp; omega
    case hbase => simp
    · intro v w' h1 h2 h3 h4
      have H2 := Lib.hid h2
      clear h2 hn h4
      go_wp2
      go_ret
      exact ⟨_, rfl, h1, below_grown (below_alloc w _) (by simp) H2.out (by simp [Value.ownBlock]), by simp [h3]⟩



theorem made_u8 (c : Nat) : madeCells (Value.int .u8 0).cells c = (u8s (List.replicate c 0)).toArray := by
  have hz : (Value.int .u8 0).cells = #[u8 0] := rfl
  rw [hz]
  apply Array.ext
  · simp [size_madeCells, u8s]
  · intro j h1 h2
    simp [madeCells, u8s, Nat.mod_one]
/-- New bytes. -/
theorem make_bytes (l c : Nat) (z z' : Int) (hz : z = l) (hz' : z' = c) (hlc : l ≤ c) (hc : c ≤ 1000000) (w : World) :
    (Instr.makeSlice 39 (.int .i64 z) (.int .i64 z')).run Try.prog w = .ok (.slice (some ⟨w.heap.size, 0, none⟩) l c) (w.alloc (.cells (u8s (List.replicate c 0)).toArray 5)) := by
  subst hz hz'
  obtain ⟨i, hi, hz, hz1, hz2⟩ := info_parts Try.info_u8
  have := run_makeSlice (P := Try.prog) w 39 5 i (.int .u8 0) Try.underlying39 hi hz .i64 .i64 l c (by omega) (by omega) (by rw [hz1]; simp; omega) (by rw [hz2]; omega) (by omega)
  rw [this, hz1, Nat.mul_one, made_u8]
  simp

set_option maxHeartbeats 800000 in
theorem copy_calls (A : Option Addr) (c : Nat) (l : List UInt8) (w : World) (h : Rd w A c l) (hb : l.length ≤ 20000) :
    Calls Try.prog 60 #[.slice A l.length c] w fun e w' => ∃ v, e = .returned v ∧ OwnB w' w.heap.size v l ∧ Below w.heap.size w w' := by
  have H1 := Lib.hid h
  have hm := make_bytes 0 l.length 0 l.length rfl rfl (by omega) (by omega)
  have ho : OwnB (w.alloc (.cells (u8s (List.replicate l.length 0)).toArray 5)) w.heap.size (.slice (some ⟨w.heap.size, 0, none⟩) 0 l.length) [] :=
    OwnB.made (l := []) (sp := List.replicate l.length 0) (Nat.le_refl _) (heap_alloc_new w _) (by simp) (by omega)
  have HO := Lib.hid ho
  obtain ⟨n, hn⟩ : ∃ n, l.length = n := ⟨_, rfl⟩
  have HN := Lib.hid hn
  rw [hn] at hb hm HO ⊢
  have hlc := h.len
  rw [hn] at hlc
  clear h hn ho
  obtain ⟨Z, hZ⟩ : ∃ Z, (u8s (List.replicate n 0)).toArray = Z := ⟨_, rfl⟩
  rw [hZ] at hm HO
  clear hZ
  go_enter Try.func60, Try.ntmps60
  go_wp2_with fail
  go_loopw [3, 4] (fun v i wr => ∃ k : Nat, k ≤ n ∧ i = .int .i64 k ∧ OwnB wr w.heap.size v (l.take k) ∧ Below w.heap.size w wr) (fun _ i _ => n - (intOf i).toNat)
  case atStart => exact ⟨0, by omega, rfl, HO.out, below_alloc w _⟩
  case round =>
    obtain ⟨k, hk, rfl, ho, hbl⟩ := hrel
    have HOk := Lib.hid ho
    have HB := Lib.hid hbl
    clear ho hbl
    by_cases hkn : k < n
    · have hkn' : k < l.length := by rw [HN.out]; exact hkn
      obtain ⟨ad, rfl, hc⟩ := (H1.out.below HB.out).at_ k hkn'
      have hu := l[k].toNat_lt
      have HT := Lib.hid (take_succ' l k hkn')
      have HL := Lib.hid hkn'
      go_wp2_with (at_builtin; refine wpList_appB _ rfl _ _ rfl w.heap.size _ (l.take k) rfl ?own (some ⟨wr.heap.size, 0, none⟩) _ _ [l[k]'hkn'] rfl rfl ?rd ?hb ?hbase ?_)
      case own => exact HOk.out.alloc _
      case rd => exact rd_one rfl
      case hb => simp; omega
      case hbase => have := HB.out.size; simp; omega
      intro v1 w2 h1 h2 h3 h4
      try rw [← HT.out] at h1
      have H1' := Lib.hid h1
      have H2' := Lib.hid (below_grown (HB.out.alloc HB.out.size _) (by have := HB.out.size; simp; omega) h2 (fun k hk => (HOk.out.lt k hk).1))
      clear h1 h2 h3 h4
      go_wp2
      go_roundw
      case rel => exact ⟨k + 1, by omega, by go_num, H1'.out, H2'.out⟩
      case measure => simp [intOf]; omega
    · obtain rfl : k = n := by omega
      go_wp2
      go_ret
      have := HOk.out
      rw [← HN.out, List.take_length] at this
      exact ⟨_, rfl, this, HB.out⟩



theorem less_asymm : ∀ (l m : List UInt8), Op.bytesLess l m = true → Op.bytesLess m l = false
  | [], [], h => by simp [Op.bytesLess] at h
  | _ :: _, [], h => by simp [Op.bytesLess] at h
  | [], _ :: _, h => by simp [Op.bytesLess]
  | a :: l, b :: m, h => by
    have ih := less_asymm l m
    simp only [Op.bytesLess, Bool.or_eq_true, Bool.and_eq_true, decide_eq_true_eq, beq_iff_eq, Bool.or_eq_false_iff, Bool.and_eq_false_iff, decide_eq_false_iff_not] at h ⊢
    rcases h with h | ⟨rfl, h⟩
    · exact ⟨fun h' => by rw [UInt8.lt_iff_toNat_lt] at h h'; omega, .inl (by simp; intro he; subst he; rw [UInt8.lt_iff_toNat_lt] at h; omega)⟩
    · exact ⟨fun h' => by rw [UInt8.lt_iff_toNat_lt] at h'; omega, .inr (ih h)⟩
theorem less_both (l m : List UInt8) : ((Op.bytesLess l m || l == m) && (Op.bytesLess m l || m == l)) = decide (l = m) := by
  by_cases he : l = m
  · subst he; simp
  · have he' : ¬ m = l := fun hh => he hh.symm
    cases h1 : Op.bytesLess l m with
    | false => simp [he, he']
    | true => simp [he, he', less_asymm l m h1]

set_option maxRecDepth 100000 in
set_option maxHeartbeats 400000 in
theorem eq_calls (A B : Option Addr) (c d : Nat) (l m : List UInt8) (w : World) (h : Rd w A c l) (k : Rd w B d m) :
    Calls Try.prog 36 #[.slice A l.length c, .slice B m.length d] w fun e w' => e = .returned (.bool (decide (l = m))) ∧ w = w' := by
  have s1 : (convert 39 9 (.slice A l.length c)).run Try.prog w = .ok (.string ⟨l.toArray⟩) w := conv_bytes h
  have s2 : (convert 39 9 (.slice B m.length d)).run Try.prog w = .ok (.string ⟨m.toArray⟩) w := conv_bytes k
  have HB := Lib.hid (less_both l m)
  clear h k
  go_enter Try.func36, Try.ntmps36
  go_wp2_with fail
  · go_ret
    refine ⟨?_, rfl⟩
    rw [HB.out]
    first | rfl | simp
  · rename_i hx
    have h0 := HB.out
    go_ret
    refine ⟨?_, rfl⟩
    by_cases he : l = m
    · exact (hx (.inr he)).elim
    · simp [he]

end Go.Proofs.Ytklgndmndnmdpaa

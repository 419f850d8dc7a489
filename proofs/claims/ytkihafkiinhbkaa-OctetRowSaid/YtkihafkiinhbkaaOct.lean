import Derived.Test.YtkihafkiinhbkaaLay
import Derived.Test.YtkihafkiinhbkaaTell
set_option linter.unusedVariables false
set_option linter.unusedSimpArgs false
namespace Go.Proofs.Ytkihafkiinhbkaa
open Go.RowKit

/-- May a piece be so long? -/
def mayB (wide : Int) (n : Nat) : Bool := if wide = 1 then decide (n ≤ 255) else if wide = 4 then decide (n ≤ 2147483647) else false

set_option maxHeartbeats 400000 in
theorem may_calls (wide : Int) (n : Nat) (w : World) :
    Calls Try.prog 45 #[.int .i64 wide, .int .u64 n] w fun e w' => e = .returned (.bool (mayB wide n)) ∧ w = w' := by
  unfold mayB
  by_cases h1 : wide = 1
  · subst h1
    go_enter Try.func45, Try.ntmps45
    go_wp2
    go_ret
    exact ⟨by congr 2; simp; omega, rfl⟩
  · by_cases h4 : wide = 4
    · subst h4
      go_enter Try.func45, Try.ntmps45
      go_wp2
      go_ret
      exact ⟨by congr 2; simp; omega, rfl⟩
    · have k1 : (wide == 1) = false := by simpa using h1
      have k4 : (wide == 4) = false := by simpa using h4
      rw [if_neg h1, if_neg h4]
      clear h1 h4
      go_enter Try.func45, Try.ntmps45
      go_wp2
      go_ret
      exact ⟨rfl, rfl⟩

/-- Eight bytes that guard. -/
def a5 : List UInt8 := List.replicate 8 0xa5
/-- Bytes behind which, in the same memory, stand others. -/
def Grd (w : World) (base : Nat) (v : Value) (l : List UInt8) : Prop := ∃ g cap, v = .slice (some ⟨g, 0, none⟩) l.length cap ∧ OwnB w base (.slice (some ⟨g, 0, none⟩) (l ++ a5).length cap) (l ++ a5)
theorem OwnB.take {w : World} {base g n cap : Nat} {l : List UInt8} (k : Nat) (h : OwnB w base (.slice (some ⟨g, 0, none⟩) n cap) l) (hk : k ≤ l.length) : OwnB w base (.slice (some ⟨g, 0, none⟩) k cap) (l.take k) := by
  rcases h.open_ with ⟨h, _⟩ | ⟨g', cap', sp, h, hb, hh, hc, hm⟩
  · cases h
  · cases h
    have e := OwnB.made (l := l.take k) (sp := l.drop k ++ sp) (cap := cap) hb (by rw [← List.append_assoc, List.take_append_drop]; exact hh) (by simp; omega) hm
    rw [List.length_take, Nat.min_eq_left hk] at e
    exact e
theorem Grd.own {w : World} {base : Nat} {v : Value} {l : List UInt8} (h : Grd w base v l) : OwnB w base v l := by
  obtain ⟨g, cap, rfl, h⟩ := h
  have := h.take l.length (by simp)
  rwa [List.take_left' rfl] at this
theorem Grd.below {w w' : World} {base : Nat} {v : Value} {l : List UInt8} (h : Grd w base v l) (hb : Below w.heap.size w w') : Grd w' base v l := by
  obtain ⟨g, cap, e, h⟩ := h
  exact ⟨g, cap, e, h.below hb⟩

set_option maxHeartbeats 400000 in
theorem guarded_calls (A : Option Addr) (c : Nat) (l : List UInt8) (w : World) (h : Rd w A c l) (hb : l.length ≤ 140737488351232) :
    Calls Try.prog 29 #[.slice A l.length c] w fun e w' => ∃ v, e = .returned v ∧ Grd w' w.heap.size v l ∧ Below w.heap.size w w' := by
  have HR := Lib.hid h
  clear h
  go_enter Try.func29, Try.ntmps29
  go_wp2_with (at_builtin; refine wpList_appB _ rfl (.tmp 4) (.tmp 5) rfl w.heap.size (.slice (some ⟨w.heap.size, 0, none⟩) 0 0) [] rfl ?own A _ _ l rfl rfl ?rd ?hb ?hbase ?_)
  case own => exact OwnB.new (Nat.le_refl _)
  case rd => exact HR.out.below (below_alloc _ _)
  case hb => simp; omega
  case hbase => simp
  · intro v1 w1 h1 h2 h3 h4
    have HB := Lib.hid (below_grown (below_alloc w _) (by simp) h2 (by simp [Value.ownBlock]))
    have H1 := Lib.hid h1
    clear h1 h2 h3 h4
    go_wp2_with (at_builtin; refine wpList_appB _ rfl (.tmp 7) (.tmp 8) rfl w.heap.size v1 l rfl ?own2 (some ⟨w1.heap.size, 0, none⟩) _ _ a5 rfl rfl ?rd2 ?hb2 ?hbase2 ?_)
    case own2 => exact H1.out.alloc _
    case rd2 => exact rd_lit a5 rfl (by decide)
    case hb2 => simp [a5]; omega
    case hbase2 => have := HB.out.size; simp; omega
    · intro v2 w2 h1 h2 h3 h4
      have hlt := H1.out.lt
      have HB2 := Lib.hid (below_grown (below_then HB.out HB.out.size (below_alloc w1 _)) (by have := HB.out.size; simp; omega) h2 (fun k hk => (hlt k hk).1))
      obtain ⟨g, cap, rfl, hg1, hg2, hg3⟩ := h1.form (by simp [a5])
      have hcap : l.length + 8 ≤ cap := by simpa [a5] using hg2
      have HO := Lib.hid h1
      clear h1 h2 h3 h4 hlt hg1 hg2
      go_wp2
      go_ret
      exact ⟨_, rfl, ⟨g, cap, rfl, HO.out⟩, HB2.out⟩
theorem a5_get (l : List UInt8) (k : Nat) (hk : k < 8) : (l ++ a5)[l.length + k]'(by simp [a5]; omega) = 0xa5 := by
  rw [List.getElem_append_right (by omega)]
  unfold a5
  exact List.getElem_replicate _

set_option maxHeartbeats 400000 in
theorem whole_calls (v : Value) (base : Nat) (A : Option Addr) (c : Nat) (l : List UInt8) (w : World) (hg : Grd w base v l) (h : Rd w A c l) (hb : l.length ≤ 140737488351232) :
    Calls Try.prog 32 #[v, .slice A l.length c] w fun e w' => e = .returned (.bool true) ∧ w = w' := by
  have h2 := hg.own.rd
  obtain ⟨g, cap, rfl, ho⟩ := hg
  obtain ⟨A2, c2, e2, h2⟩ := h2
  cases e2
  obtain ⟨A1, c1, e1, h1⟩ := ho.rd
  cases e1
  have hcap : l.length + 8 ≤ cap := by have := h1.len.1; simp [a5] at this; exact this
  have hcells : ∀ k, k < 8 → w.cell? ⟨g, l.length + k, none⟩ = some (.int .u8 165) := fun k hk => by
    obtain ⟨ad, e, hc⟩ := h1.at_ (l.length + k) (by simp [a5]; omega)
    cases e
    rw [plain_add, Nat.zero_add, a5_get l k hk] at hc
    exact hc
  have HC := Lib.hid hcells
  have s1 := conv_bytes h
  have s2 := conv_bytes h2
  clear hcells ho h1 h2 h
  go_enter Try.func32, Try.ntmps32
  go_wp2
  go_loop [6] (fun i => ∃ k : Nat, k ≤ 8 ∧ i = .int .i64 k) (fun i => 8 - (intOf i).toNat)
  case atStart => exact ⟨0, by omega, rfl⟩
  case round =>
    obtain ⟨k, hk, rfl⟩ := hrel
    by_cases hlt : k < 8
    · have hc := HC.out k hlt
      go_wp2
      go_round
      case rel => exact ⟨k + 1, by omega, by go_num⟩
      case measure => simp [intOf]; omega
    · obtain rfl : k = 8 := by omega
      unfold str at s1 s2
      go_wp2
      go_ret
      exact ⟨by simp, rfl⟩

set_option maxHeartbeats 400000 in
theorem layPiece_no (A B : Option Addr) (c d : Nat) (l p : List UInt8) (wide : Int) (w : World) (hw : mayB wide p.length = false) (hp : p.length ≤ 140737488351232) :
    Calls Try.prog 30 #[.slice A l.length c, .slice B p.length d, .int .i64 wide] w fun e w' => e = .returned (.tuple #[.slice none 0 0, .int .i64 1]) ∧ w = w' := by
  have HW := Lib.hid hw
  clear hw
  go_enter Try.func30, Try.ntmps30
  go_wp2_with (go_at_call 45; refine (may_calls wide p.length _).mono ?_; rintro e w1 ⟨rfl, rfl⟩; rw [HW.out])
  go_ret2
  exact ⟨rfl, rfl⟩

set_option maxHeartbeats 400000 in
theorem layPiece_yes (A B : Option Addr) (c d : Nat) (l p : List UInt8) (wide : Nat) (w : World) (hl : Rd w A c l) (hq : Rd w B d p) (hw : mayB wide p.length = true) (h8 : wide ≤ 8) (hb : l.length + 8 + p.length ≤ 140737488351232) :
    Calls Try.prog 30 #[.slice A l.length c, .slice B p.length d, .int .i64 wide] w fun e w' => ∃ v, e = .returned (.tuple #[v, .int .i64 0]) ∧ OwnB w' w.heap.size v (l ++ bytesBE p.length wide ++ p) ∧ Below w.heap.size w w' := by
  have HW := Lib.hid hw
  have HL := Lib.hid hl
  have HQ := Lib.hid hq
  clear hw hl hq
  go_enter Try.func30, Try.ntmps30
  go_wp2_with (first | (go_at_call 45; refine (may_calls wide p.length _).mono ?_; rintro e w1 ⟨rfl, rfl⟩; rw [HW.out]) | (go_at_call 27; refine (lay_yes A c l p.length wide _ HL.out (by omega) h8).mono ?_; rintro e w1 ⟨v, rfl, h1, h2⟩; have H1 := Lib.hid h1; have H2 := Lib.hid h2; clear h1 h2) | (at_builtin; refine wpList_appB _ rfl (.tmp 18) (.tmp 19) rfl w.heap.size _ (l ++ bytesBE p.length wide) rfl ?own B _ _ p rfl rfl ?rd ?hb ?hbase ?_))
  case own => exact H1.out
  case rd => exact HQ.out.below H2.out
  case hb => simp [bytesBE_length]; omega
  case hbase => exact H2.out.size
  · intro v2 w2 h1 h2 h3 h4
    have hlt := H1.out.lt
    have HB2 := Lib.hid (below_grown H2.out H2.out.size h2 (fun k hk => (hlt k hk).1))
    have HO := Lib.hid h1
    clear h1 h2 h3 h4 hlt
    go_wp2
    go_ret2
    exact ⟨_, rfl, by rw [List.append_assoc]; exact HO.out, HB2.out⟩
end Go.Proofs.Ytkihafkiinhbkaa

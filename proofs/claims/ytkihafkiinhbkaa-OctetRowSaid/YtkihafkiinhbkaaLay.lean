import Derived.Test.YtkihafkiinhbkaaClone
set_option linter.unusedVariables false
set_option linter.unusedSimpArgs false
namespace Go.Proofs.Ytkihafkiinhbkaa
open Go.RowKit

/-- The n lowest bytes of a number, the highest first. -/
def bytesBE (x : Nat) : Nat → List UInt8
  | 0 => []
  | n + 1 => UInt8.ofNat (x / 2 ^ (8 * n)) :: bytesBE x n

theorem bytesBE_length (x : Nat) : ∀ n, (bytesBE x n).length = n
  | 0 => rfl
  | n + 1 => by simp [bytesBE, bytesBE_length x n]
theorem byte_at (x k : Nat) : ((UInt8.ofNat (x / 2 ^ (8 * k))).toNat : Int) = (x : Int) / 2 ^ (8 * k) % 256 := by
  simp

set_option maxHeartbeats 400000 in
theorem lay_no (A : Option Addr) (c : Nat) (l : List UInt8) (x wide : Int) (w : World) (h : Rd w A c l) (hb : l.length ≤ 140737488351232) (hw : 8 < wide) :
    Calls Try.prog 27 #[.slice A l.length c, .int .u64 x, .int .i64 wide] w fun e w' => ∃ v, e = .returned v ∧ OwnB w' w.heap.size v l ∧ Below w.heap.size w w' := by
  have HR := Lib.hid h
  clear h
  go_enter Try.func27, Try.ntmps27
  go_wp2_with (go_at_call 42; refine (clone_calls A c l _ HR.out hb).mono ?_; rintro e w1 ⟨v, rfl, h1, h2, h3⟩; clear h3; have H1 := Lib.hid h1; have H2 := Lib.hid h2; clear h1 h2)
  go_ret
  exact ⟨_, rfl, H1.out, H2.out⟩

set_option maxHeartbeats 400000 in
theorem lay_yes (A : Option Addr) (c : Nat) (l : List UInt8) (x n : Nat) (w : World) (h : Rd w A c l) (hb : l.length ≤ 140737488351232) (hn : n ≤ 8) :
    Calls Try.prog 27 #[.slice A l.length c, .int .u64 x, .int .i64 n] w fun e w' => ∃ v, e = .returned v ∧ OwnB w' w.heap.size v (l ++ bytesBE x n) ∧ Below w.heap.size w w' := by
  have HR := Lib.hid h
  clear h
  go_enter Try.func27, Try.ntmps27
  go_wp2_with (go_at_call 42; refine (clone_calls A c l _ HR.out hb).mono ?_; rintro e w1 ⟨v, rfl, h1, h2, h3⟩; clear h3; have H1 := Lib.hid h1; have H2 := Lib.hid h2; clear h1 h2)
  go_loopw [7, 8] (fun v i wr => ∃ (k : Nat) (m : List UInt8), k ≤ n ∧ i = .int .i64 (8 * ((k : Int) - 1)) ∧ Hid (m ++ bytesBE x k = l ++ bytesBE x n) ∧ OwnB wr w.heap.size v m ∧ Below w.heap.size w wr) (fun _ i _ => (intOf i + 8).toNat)
  case atStart => exact ⟨n, l, Nat.le_refl _, rfl, Lib.hid rfl, H1.out, H2.out⟩
  case round =>
    obtain ⟨k, m, hk, rfl, hm, ho, hbl⟩ := hrel
    have HO := Lib.hid ho
    have HB := Lib.hid hbl
    clear ho hbl H1 H2
    have hlen : m.length ≤ l.length + 8 := by have h := congrArg List.length hm.out; simp only [List.length_append, bytesBE_length] at h; omega
    cases k with
    | zero =>
      go_wp2
      go_ret
      have he := hm.out
      simp only [bytesBE, List.append_nil] at he
      subst he
      exact ⟨_, rfl, HO.out, HB.out⟩
    | succ k =>
      obtain ⟨b, hbb⟩ : ∃ b : UInt8, Hid (b = UInt8.ofNat (x / 2 ^ (8 * k))) := ⟨_, Lib.hid rfl⟩
      go_wp2_with (at_builtin; refine wpList_appB _ rfl _ _ rfl w.heap.size _ m rfl ?own (some ⟨wr.heap.size, 0, none⟩) _ _ [b] rfl rfl ?rd ?hb ?hbase ?_)
      case own => exact HO.out.alloc _
      case rd => exact rd_one (by rw [hbb.out, byte_at])
      case hb => simp; omega
      case hbase => have := HB.out.size; simp; omega
      · intro v1 w2 h1 h2 h3 h4
        have H1 := Lib.hid h1
        have H2 := Lib.hid h2
        clear h1 h2 h3 h4
        go_wp2
        have hlt := HO.out.lt
        go_roundw
        case rel => exact ⟨k, m ++ [b], by omega, by go_num, Lib.hid (by have := hm.out; simp only [bytesBE] at this; rw [hbb.out]; simpa using this), H1.out, below_grown (below_then HB.out HB.out.size (below_alloc wr _)) (by have := HB.out.size; simp; omega) H2.out (fun k hk => (hlt k hk).1)⟩
        case measure => simp [intOf]; omega
end Go.Proofs.Ytkihafkiinhbkaa

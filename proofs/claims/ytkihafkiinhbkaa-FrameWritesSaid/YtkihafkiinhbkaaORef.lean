import Derived.Test.YtkihafkiinhbkaaPiece
set_option linter.unusedVariables false
set_option linter.unusedSimpArgs false
namespace Go.Proofs.Ytkihafkiinhbkaa
open Go.RowKit

theorem div_256 (x j : Nat) : ((x / 2 ^ (8 * j) : Nat) : Int) / 256 = ((x / 2 ^ (8 * (j + 1)) : Nat) : Int) := by
  rw [show 8 * (j + 1) = 8 * j + 8 from by omega, Nat.pow_add, ← Nat.div_div_eq_div_mul]
  omega
theorem byte_mod (x j : Nat) : ((UInt8.ofNat (x / 2 ^ (8 * j))).toNat : Int) = ((x / 2 ^ (8 * j) : Nat) : Int) % 256 := by
  simp

set_option maxHeartbeats 400000 in
theorem rlay_calls (A : Option Addr) (c : Nat) (l : List UInt8) (x n : Nat) (w : World) (h : Rd w A c l) (hb : l.length ≤ 140737488351232) (hn : n ≤ 8) (hx : x ≤ 18446744073709551615) :
    Calls Try.prog 36 #[.slice A l.length c, .int .u64 x, .int .i64 n] w fun e w' => ∃ v, e = .returned v ∧ OwnB w' w.heap.size v (l ++ bytesBE x n) ∧ Below w.heap.size w w' := by
  have HR := Lib.hid h
  clear h
  go_enter Try.func36, Try.ntmps36
  go_wp2_with (at_builtin; refine wpList_appB _ rfl (.tmp 11) (.tmp 12) rfl w.heap.size (.slice (some ⟨w.heap.size, 0, none⟩) 0 0) [] rfl ?own A _ _ l rfl rfl ?rd ?hb ?hbase ?_)
  case own => exact OwnB.new (Nat.le_refl _)
  case rd => exact HR.out.below (below_alloc _ _)
  case hb => simp; omega
  case hbase => simp
  · intro v1 w1 h1 h2 h3 h4
    have HB := Lib.hid (below_grown (below_alloc w _) (by simp) h2 (by simp [Value.ownBlock]))
    have H1 := Lib.hid h1
    clear h1 h2 h3 h4
    go_wp2
    go_loopw [7, 8, 9, 10] (fun v i _ _ wr => ∃ (k : Nat) (m : List UInt8), k ≤ n ∧ i = .int .i64 k ∧ Hid (m ++ bytesBE x k = l ++ bytesBE x n) ∧ OwnB wr w.heap.size v m ∧ Below w.heap.size w wr) (fun _ i _ _ _ => (intOf i).toNat)
    case atStart => exact ⟨n, l, Nat.le_refl _, rfl, Lib.hid rfl, H1.out, HB.out⟩
    case round =>
      obtain ⟨k, m, hk, rfl, hm, ho, hbl⟩ := hrel
      have HO := Lib.hid ho
      have HB' := Lib.hid hbl
      have hlen : m.length ≤ l.length + 8 := by have h := congrArg List.length hm.out; simp only [List.length_append, bytesBE_length] at h; omega
      clear ho hbl H1 HB
      cases k with
      | zero =>
        go_wp2
        go_ret
        have he := hm.out
        simp only [bytesBE, List.append_nil] at he
        subst he
        exact ⟨_, rfl, HO.out, HB'.out⟩
      | succ k =>
        obtain ⟨wo, rfl⟩ : ∃ wo : World, wo = wr := ⟨_, rfl⟩
        go_wp2
        go_loop [9, 10] (fun y i => ∃ j z : Nat, j ≤ k ∧ i = .int .i64 ((j : Int) + 1) ∧ y = .int .u64 (z : Int) ∧ Hid (z = x / 2 ^ (8 * j)) ∧ z ≤ 18446744073709551615) (fun _ i => k + 1 - (intOf i).toNat)
        case atStart => exact ⟨0, x, Nat.zero_le _, rfl, rfl, Lib.hid (by simp), hx⟩
        case round =>
          obtain ⟨j, z, hj, rfl, rfl, hz, hzl⟩ := hrel
          by_cases hlt : j < k
          · go_wp2
            go_round
            case rel => exact ⟨j + 1, z / 256, by omega, by go_num, by go_num, Lib.hid (by rw [hz.out, show 8 * (j + 1) = 8 * j + 8 from by omega, Nat.pow_add, ← Nat.div_div_eq_div_mul]), by omega⟩
            case measure => first | (simp [intOf]; omega) | (simp only [intOf]; omega)
          · obtain rfl : j = k := by omega
            obtain ⟨b, hbb⟩ : ∃ b : UInt8, Hid (b = UInt8.ofNat z) := ⟨_, Lib.hid rfl⟩
            go_wp2_with (at_builtin; refine wpList_appB _ rfl (.tmp 31) (.tmp 35) rfl w.heap.size _ m rfl ?own2 (some ⟨wo.heap.size, 0, none⟩) _ _ [b] rfl rfl ?rd2 ?hb2 ?hbase2 ?_)
            case own2 => exact HO.out.alloc _
            case rd2 => exact rd_one (by rw [hbb.out]; simp)
            case hb2 => first | omega | (simp; omega)
            case hbase2 => have := HB'.out.size; first | omega | (simp; omega)
            · intro v1 w2 h1 h2 h3 h4
              have H1 := Lib.hid h1
              have H2 := Lib.hid h2
              clear h1 h2 h3 h4
              go_wp2
              have hlt := HO.out.lt
              go_roundw
              case rel => exact ⟨j, m ++ [b], by omega, by go_num, Lib.hid (by have := hm.out; simp only [bytesBE] at this; rw [hbb.out, hz.out]; simpa using this), H1.out, below_grown (below_then HB'.out HB'.out.size (below_alloc wo _)) (by have := HB'.out.size; simp; omega) H2.out (fun k hk => (hlt k hk).1)⟩
              case measure => first | (simp [intOf]; done) | (simp only [intOf]; omega)
end Go.Proofs.Ytkihafkiinhbkaa

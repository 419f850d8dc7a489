import Derived.Test.YtafmhpcfjmannaaVastI
set_option linter.unusedVariables false
set_option linter.unusedSimpArgs false
namespace Go.Proofs.Ytafmhpcfjmannaa
open Go.RowKit

def mod32 (n : Nat) : Nat := n % 4294967296
theorem mod32_lt (n : Nat) : mod32 n < 4294967296 := by unfold mod32; omega
/-- So many entries, one behind the other. -/
def fullI (f k : Nat) : Is := (List.range k).map fun i => (mod32 (f + i), ⟨i, []⟩)
theorem fullI_succ (f k : Nat) : fullI f (k + 1) = fullI f k ++ [(mod32 (f + k), ⟨k, []⟩)] := by simp [fullI, List.range_succ]
theorem fullI_len (f k : Nat) : (fullI f k).length = k := by simp [fullI]
theorem fullI_mem {f k : Nat} {p : Nat × Ky} (h : p ∈ fullI f k) : ∃ i, i < k ∧ p = (mod32 (f + i), ⟨i, []⟩) := by
  obtain ⟨i, hi, rfl⟩ := List.mem_map.1 h
  exact ⟨i, by simpa using hi, rfl⟩
theorem fullI_put (f k : Nat) (hk : k < 512) : putI (fullI f k) (mod32 (f + k)) ⟨k, []⟩ = (0, fullI f (k + 1)) := by
  have h1 : geI (fullI f k) (mod32 (f + k)) = none := geI_none.2 fun p hp => by
    obtain ⟨i, hi, rfl⟩ := fullI_mem hp
    simp only [mod32]
    omega
  have h2 : fiI (fullI f k) ⟨k, []⟩ = none := fiI_none.2 fun p hp => by
    obtain ⟨i, hi, rfl⟩ := fullI_mem hp
    simp
    omega
  rw [putI, h1, h2, fullI_len, if_neg (by simp), if_neg (by omega), fullI_succ]
theorem fullI_more (f : Nat) : putI (fullI f 512) (mod32 (f + 600)) ⟨600, []⟩ = (4, fullI f 512) := by
  have h1 : geI (fullI f 512) (mod32 (f + 600)) = none := geI_none.2 fun p hp => by
    obtain ⟨i, hi, rfl⟩ := fullI_mem hp
    simp only [mod32]
    omega
  have h2 : fiI (fullI f 512) ⟨600, []⟩ = none := fiI_none.2 fun p hp => by
    obtain ⟨i, hi, rfl⟩ := fullI_mem hp
    simp
    omega
  rw [putI, h1, h2, fullI_len, if_neg (by simp), if_pos (by omega)]
theorem fullI_range (f : Nat) (hf : f < 4294967296) : (rangeI (fullI f 512) f (mod32 (f + 511))).length = 512 := by
  have h1 : stp f (mod32 (f + 511)) = 511 := by unfold stp mod32; omega
  rw [rangeI, h1, if_pos (by omega), List.length_map, List.filter_eq_self.2, fullI_len]
  intro p hp
  obtain ⟨i, hi, rfl⟩ := fullI_mem hp
  unfold inR
  rw [h1]
  have : stp f (mod32 (f + i)) = i := by unfold stp mod32; omega
  simp only [this]
  exact decide_eq_true (by omega)
theorem filter_ne_one {l : List (Nat × Ky)} (hn : (l.map (·.1)).Nodup) {x : Nat} (hx : x ∈ l.map (·.1)) : (rmI l x).length + 1 = l.length := by
  induction l with
  | nil => simp at hx
  | cons p l ih =>
    simp only [List.map_cons, List.nodup_cons] at hn
    simp only [rmI, List.filter_cons]
    by_cases hp : p.1 = x
    · subst hp
      simp only [ne_eq, not_true, decide_false, Bool.false_eq_true, if_false, List.length_cons]
      rw [List.filter_eq_self.2]
      intro q hq
      simpa using fun e => hn.1 (List.mem_map.2 ⟨q, hq, e⟩)
    · simp only [ne_eq, hp, not_false_eq_true, decide_true, if_true, List.length_cons]
      have := ih hn.2 (by
        simp only [List.map_cons, List.mem_cons] at hx
        rcases hx with e | h
        · exact absurd e.symm hp
        · exact h)
      unfold rmI at this
      simp only [ne_eq] at this
      omega
theorem fullI_drop (f k : Nat) (hk : k < 512) (hn : ((fullI f 512).map (·.1)).Nodup) : ∃ es, dropI (fullI f 512) (mod32 (f + k)) = (true, es) ∧ ∃ es2, putI es (mod32 (f + 600)) ⟨600, []⟩ = (0, es2) ∧ es2.length = 512 := by
  have hm : (mod32 (f + k), (⟨k, []⟩ : Ky)) ∈ fullI f 512 := List.mem_map.2 ⟨k, by simp; omega, rfl⟩
  have hg := geI_of_mem hn hm
  have hl := filter_ne_one hn (List.mem_map.2 ⟨_, hm, rfl⟩)
  rw [fullI_len] at hl
  refine ⟨rmI (fullI f 512) (mod32 (f + k)), by rw [dropI, hg]; rfl, ?_⟩
  have h1 : geI (rmI (fullI f 512) (mod32 (f + k))) (mod32 (f + 600)) = none := geI_none.2 fun p hp => by
    obtain ⟨i, hi, rfl⟩ := fullI_mem (List.mem_filter.1 hp).1
    simp only [mod32]
    omega
  have h2 : fiI (rmI (fullI f 512) (mod32 (f + k))) ⟨600, []⟩ = none := fiI_none.2 fun p hp => by
    obtain ⟨i, hi, rfl⟩ := fullI_mem (List.mem_filter.1 hp).1
    simp
    omega
  refine ⟨rmI (fullI f 512) (mod32 (f + k)) ++ [(mod32 (f + 600), ⟨600, []⟩)], ?_, ?_⟩
  · simp only at hl
    rw [putI, h1, h2, if_neg (by simp), if_neg (by omega)]
  · simp only at hl
    rw [List.length_append]
    simp only [List.length_cons, List.length_nil]
    omega

set_option maxRecDepth 100000 in
set_option maxHeartbeats 2000000 in
theorem ifull_calls (f q : Nat) (hf : f < 4294967296) (hq : q < 65536) (w : World) :
    Calls Try.prog 7 #[.int .u32 f, .int .u16 q] w fun e w' => e = .returned (.bool true) ∧ Below w.heap.size w w' := by
  go_enter Try.func7, Try.ntmps7
  go_wp2_with fail
  refine (if_new w w (Below.refl _ _)).mono ?_
  rintro e w1 ⟨rfl, m1, -⟩
  have M1 := Lib.hid m1
  clear m1
  obtain ⟨a, ha⟩ : ∃ a, w.heap.size + 1 = a := ⟨_, rfl⟩
  rw [ha] at M1 ⊢
  clear ha
  go_wp2_with fail
  go_loopw [6] (fun i wr => ∃ (k : Nat) (F' : List Nat), k ≤ 512 ∧ i = .int .i64 k ∧ IkF w wr a F' (fullI f k)) (fun i _ => 512 - (intOf i).toNat)
  case atStart => exact ⟨0, _, by omega, rfl, M1.out⟩
  case round =>
    obtain ⟨k, F', hk, rfl, hm⟩ := hrel
    have HM := Lib.hid hm
    clear hm
    by_cases hkN : k < 512
    · have hkN' : (k : Int) < 512 := by omega
      go_wp2_with fail
      rw [show ((f : Int) + (k : Int)) % 4294967296 = ((mod32 (f + k) : Nat) : Int) by unfold mod32; omega]
      refine (if_put (mod32 (f + k)) ⟨k, []⟩ HM.out (mod32_lt _) (fullI_put f k hkN)).mono ?_
      rintro e w2 ⟨F2, rfl, m2, -, -⟩
      have M2 := Lib.hid m2
      clear m2
      go_wp2_with fail
      exact ⟨⟨k + 1, F2, by omega, by go_num, M2.out⟩, by simp [intOf]; omega⟩
    · obtain rfl : k = 512 := by omega
      clear hkN hk
      have hq2 : q % 512 < 512 := Nat.mod_lt _ (by omega)
      obtain ⟨es, hd, es2, hp, hl⟩ := fullI_drop f (q % 512) hq2 HM.out.good.ids
      have HD := Lib.hid hd
      have HP := Lib.hid hp
      have HL := Lib.hid hl
      have hrl := fullI_range f hf
      obtain ⟨R, hR⟩ : ∃ R, rangeI (fullI f 512) f (mod32 (f + 511)) = R := ⟨_, rfl⟩
      rw [hR] at hrl
      have HR := Lib.hid hR
      have HRL := Lib.hid hrl
      obtain ⟨z, hz⟩ : ∃ z, q % 512 = z := ⟨_, rfl⟩
      have hzq : ((q : Int) % 512) = (z : Int) := by omega
      rw [hz] at HD hq2
      have HZQ := Lib.hid hzq
      clear hd hp hl hR hrl hz hzq
      go_wp2_with fail
      rw [show ((f : Int) + 600) % 4294967296 = ((mod32 (f + 600) : Nat) : Int) by unfold mod32; omega]
      refine (if_put (mod32 (f + 600)) ⟨600, []⟩ HM.out (mod32_lt _) (fullI_more f)).mono ?_
      rintro e w2 ⟨F2, rfl, m2, -, -⟩
      have M2 := Lib.hid m2
      clear m2
      go_wp2_with fail
      rw [show ((f : Int) + 511) % 4294967296 = ((mod32 (f + 511) : Nat) : Int) by unfold mod32; omega]
      refine (if_range f (mod32 (f + 511)) M2.out hf (mod32_lt _) HR.out).mono ?_
      rintro e w3 ⟨v3, rfl, o3, m3, -⟩
      obtain ⟨A3, c3, rfl⟩ := OwnC.slice o3
      rw [HRL.out]
      have M3 := Lib.hid m3
      clear m3 o3
      go_wp2_with fail
      rw [HZQ.out]
      rw [show ((f : Int) + (z : Int)) % 4294967296 = ((mod32 (f + z) : Nat) : Int) by unfold mod32; omega]
      refine (if_drop (mod32 (f + z)) M3.out HD.out).mono ?_
      rintro e w4 ⟨F4, rfl, m4, -, -⟩
      have M4 := Lib.hid m4
      clear m4
      go_wp2_with fail
      rw [show ((f : Int) + 600) % 4294967296 = ((mod32 (f + 600) : Nat) : Int) by unfold mod32; omega]
      refine (if_put (mod32 (f + 600)) ⟨600, []⟩ M4.out (mod32_lt _) HP.out).mono ?_
      rintro e w5 ⟨F5, rfl, m5, -, -⟩
      have M5 := Lib.hid m5
      clear m5
      go_wp2_with fail
      refine (if_count M5.out).mono ?_
      rintro e w6 ⟨rfl, rfl⟩
      rw [HL.out]
      go_wp2_with fail
      refine (works_calls _).mono ?_
      rintro e w7 ⟨rfl, b7⟩
      have B7 := Lib.hid (below_then M5.out.old M5.out.old.size b7)
      clear b7
      go_wp2_with fail
      go_ret
      exact ⟨rfl, B7.out⟩
theorem ifull_row {w : World} (x y : Int) (hx : (Lit.int .u32 x).wf = true) (hy : (Lit.int .u16 y).wf = true) :
    Calls Try.prog 7 #[.int .u32 x, .int .u16 y] w fun e w' => e = .returned (.bool true) ∧ Below w.heap.size w w' := by
  have h1 := wf_u32 hx
  have h2 := wf_u16 hy
  obtain ⟨a, rfl⟩ : ∃ a : Nat, x = a := ⟨x.toNat, by omega⟩
  obtain ⟨b, rfl⟩ : ∃ b : Nat, y = b := ⟨y.toNat, by omega⟩
  exact ifull_calls a b (by omega) (by omega) w
end Go.Proofs.Ytafmhpcfjmannaa

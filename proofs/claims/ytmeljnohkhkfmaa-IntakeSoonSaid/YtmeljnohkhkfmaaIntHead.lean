import Derived.Test.YtmeljnohkhkfmaaIntNil
set_option linter.unusedVariables false
set_option linter.unusedSimpArgs false
namespace Go.Proofs.Ytmeljnohkhkfmaa
open Go.RowKit

/-- The first bytes of a header, one by one. -/
theorem next_pre (i : Nat) (hi : i < 7) : nextI 512 (stB.take (i + 1)) 0 = ⟨0, 0, [], stB.take (i + 1), 0⟩ := by
  have h : ∀ i, i < 7 → nextI 512 (stB.take (i + 1)) 0 = ⟨0, 0, [], stB.take (i + 1), 0⟩ := by
    intro i hi
    match i, hi with
    | 0, _ => rfl
    | 1, _ => rfl
    | 2, _ => rfl
    | 3, _ => rfl
    | 4, _ => rfl
    | 5, _ => rfl
    | 6, _ => rfl
  exact h i hi
theorem next_all : nextI 512 (stB.take (7 + 1)) 0 = ⟨1, 0, [], [], 1⟩ := by rfl
theorem next_bad (k : Nat) (X : UInt8) (hk : k < 8) (hx : X ≠ stB[k]'(by exact hk)) : nextI 512 ((stB.set k X).take (k + 1)) 0 = ⟨3, 0, [], [], 2⟩ := by
  have hl : ((stB.set k X).take (k + 1)).length = k + 1 := by rw [List.length_take, List.length_set]; have : stB.length = 8 := rfl; omega
  unfold nextI
  rw [if_pos rfl, hl, show min (k + 1) 8 = k + 1 by omega, if_neg]
  intro e
  have h1 := congrArg (fun l => l[k]?) e
  have h8 : stB.length = 8 := rfl
  simp only [List.getElem?_take, show k < k + 1 by omega, if_true] at h1
  rw [List.getElem?_set_self (by omega), List.getElem?_eq_getElem (by omega)] at h1
  exact hx (Option.some.inj h1)
theorem took_one (l : List UInt8) (b : UInt8) (h : l.length ≤ 100) : tookI 512 l 0 [b] = 1 := by
  simp [tookI, roomI]
  omega
theorem take_next (S : List UInt8) (i : Nat) (x : UInt8) (hx : S[i]? = some x) : S.take i ++ [x].take 1 = S.take (i + 1) := by
  obtain ⟨hi, rfl⟩ := List.getElem?_eq_some_iff.1 hx
  rw [List.take_succ_eq_append_getElem hi]
  rfl
theorem rd_byte {w : World} {A : Option Addr} {c : Nat} {l : List UInt8} (h : Rd w A c l) (i : Nat) (x : UInt8) (hx : l[i]? = some x) : Rd w (cutA A c i 1) (c - i) [x] := by
  obtain ⟨hi, rfl⟩ := List.getElem?_eq_some_iff.1 hx
  have e : (l.take (i + 1)).drop i = [l[i]] := by
    have h1 : (l.take i).length = i := by simp; omega
    rw [List.take_succ_eq_append_getElem hi, List.drop_append_of_le_length (by omega), List.drop_of_length_le (by omega)]
    rfl
  have := h.cut i (i + 1) (by omega) hi
  rwa [e] at this
theorem below_setNew {w w1 : World} {g j : Nat} {u : Value} (h : Below w.heap.size w w1) (hg : w.heap.size ≤ g) : Below w.heap.size w (w1.setCell ⟨g, j, none⟩ u) := h.setCell (p := ⟨g, j, none⟩) hg u

set_option maxRecDepth 100000 in
set_option maxHeartbeats 4000000 in
theorem ihead_calls (A : Option Addr) (n c : Nat) (l : List UInt8) (K : Nat) (X : UInt8) (w : World) (hl : l.length = n) (hb : Rd w A c l) (hK : K ≤ 255) :
    Calls Try.prog 6 #[.slice A n c, .int .u8 K, .int .u8 (X.toNat : Int)] w fun e w' => e = .returned (.bool true) ∧ Below w.heap.size w w' := by
  have HB := Lib.hid hb
  have HL := Lib.hid hl
  obtain ⟨k, hk⟩ : ∃ k, K % 8 = k := ⟨_, rfl⟩
  have hk8 : k < 8 := by omega
  have hke : (K : Int) % 8 = (k : Int) := by omega
  obtain ⟨B, hB⟩ : ∃ B, stB[k]'(show k < 8 from hk8) = B := ⟨_, rfl⟩
  have HBB := Lib.hid hB
  have hX := X.toNat_lt
  have hk8' : (k : Int) < 8 := by omega
  clear hb hl hk hB
  go_enter Try.func6, Try.ntmps6
  go_wp2_with fail
  refine (istart_calls _).mono ?_
  rintro e w1 ⟨rfl, o1, b1⟩
  obtain ⟨d0, d1⟩ := o1.cell_at k hk8
  rw [HBB.out] at d0
  have O1 := Lib.hid (o1.set k hk8 X (X.toNat : Int) rfl)
  have B1 := Lib.hid b1
  have hz1 : w.heap.size < w1.heap.size := (OwnB.lt o1 _ rfl).2
  clear o1 b1
  go_upto_region 7 with fail
  have B1' := Lib.hid (below_setNew (j := k) (u := .int .u8 (X.toNat : Int)) B1.out (Nat.le_refl _))
  obtain ⟨g, hg⟩ : ∃ g, w.heap.size = g := ⟨_, rfl⟩
  have HG := Lib.hid hg
  have hz1' : g < (w1.setCell ⟨g, k, none⟩ (.int .u8 (X.toNat : Int))).heap.size := by rw [← hg]; simpa using hz1
  rw [hg] at O1 B1' ⊢
  refine forget (fun W => OwnB W g (.slice (some ⟨g, 0, none⟩) 8 8) (stB.set k X) ∧ Below w.heap.size w W) ⟨O1.out, by rw [hg]; exact B1'.out⟩ ?_
  clear d0 d1 O1 B1 B1' hz1 hz1' hg
  rintro W1 ⟨o1, b1⟩
  have O1 := Lib.hid o1
  have B1 := Lib.hid b1
  clear o1 b1
  go_wp2_with fail
  refine (if_new w W1 B1.out 512 (by decide) (by decide)).mono ?_
  rintro e w2 ⟨rfl, m2, b2⟩
  have M2 := Lib.hid m2
  have O2 := Lib.hid (O1.out.below b2)
  have hga : g < W1.heap.size := (OwnB.lt O1.out g rfl).2
  obtain ⟨a, ha⟩ : ∃ a, W1.heap.size = a := ⟨_, rfl⟩
  rw [ha] at M2 hga ⊢
  clear m2 b2 ha B1 O1
  go_wp2_with fail
  go_loopw [12, 13, 14] (fun i _ _ wr => ∃ (q ph : Nat) (F : List Nat) (l' : List UInt8), q ≤ 8 ∧ i = .int .i64 q ∧ InF w wr a F 512 l' ph ∧ OwnB wr g (.slice (some ⟨g, 0, none⟩) 8 8) (stB.set k X) ∧ Hid (g ∉ F) ∧ Hid ((q < 8 ∧ ph = 0 ∧ l' = (stB.set k X).take q ∧ (X = B ∨ q ≤ k)) ∨ (q = 8 ∧ ph = 1 ∧ l' = [] ∧ X = B))) (fun i _ _ _ => 8 - (intOf i).toNat)
  case atStart => exact ⟨0, 0, [a], [], by omega, rfl, M2.out, O2.out, Lib.hid (by simp; omega), Lib.hid (.inl ⟨by omega, rfl, rfl, .inr (Nat.zero_le _)⟩)⟩
  case round =>
    obtain ⟨q, ph, F, l', hq, rfl, hm, ho, HGF, HC⟩ := hrel
    have M := Lib.hid hm
    have O := Lib.hid ho
    clear hm ho
    by_cases hq8 : q < 8
    · have hc : ph = 0 ∧ l' = (stB.set k X).take q ∧ (X = B ∨ q ≤ k) := by
        rcases HC.out with ⟨-, h1, h2, h3⟩ | ⟨h, -⟩
        · exact ⟨h1, h2, h3⟩
        · omega
      obtain ⟨rfl, rfl, hc3⟩ := hc
      have HC3 := Lib.hid hc3
      have hq8' : (q : Int) < 8 := by omega
      have hS8 : (stB.set k X).length = 8 := by simp [stB]
      have HS8 := Lib.hid hS8
      obtain ⟨A8, c8, e8, r8⟩ := O.out.rd
      rw [hS8] at e8
      cases e8
      obtain ⟨x0, hx0⟩ : ∃ x0, (stB.set k X)[q]? = some x0 := ⟨_, List.getElem?_eq_getElem (by rw [hS8]; exact hq8)⟩
      have HX0 := Lib.hid hx0
      have R1 := Lib.hid (rd_byte r8 q x0 hx0)
      have hsl := fun W => slice_both' (some ⟨g, 0, none⟩) 8 8 q (q + 1) .i64 .i64 q ((q : Int) + 1) rfl (by omega) (by omega) (by omega) W
      rw [show q + 1 - q = 1 by omega] at hsl
      obtain ⟨C, hC⟩ : ∃ C, cutA (some ⟨g, 0, none⟩) 8 q 1 = C := ⟨_, rfl⟩
      rw [hC] at R1 hsl
      clear hc3 hS8 r8 hC hx0
      go_wp2_with fail
      refine (if_put M.out R1.out rfl (n := 1) (l' := (stB.set k X).take (q + 1)) (took_one _ _ (by rw [List.length_take, HS8.out]; omega)) (take_next _ q x0 HX0.out)).mono ?_
      rintro e w3 ⟨F3, rfl, m3, t3, f3⟩
      have M3 := Lib.hid m3
      have O3 := Lib.hid (OwnC.tch O.out t3 (fun k hk h => HGF.out (by simp [Value.ownBlock] at hk; rw [hk]; exact h)))
      have hgw : g < wr.heap.size := (OwnB.lt O.out g rfl).2
      have HGF3 := Lib.hid (show g ∉ F3 from fun h => by
        rcases f3 g h with h | h
        · exact HGF.out h
        · omega)
      clear m3 t3 f3 M O HGF R1
      have hk7 := hk8
      have HD := Lib.hid (show (X = B ∧ q < 7) ∨ (X = B ∧ q = 7) ∨ (X ≠ B ∧ q < k) ∨ (X ≠ B ∧ q = k) by
        by_cases hx : X = B
        · rcases Nat.lt_or_ge q 7 with h | h
          · exact .inl ⟨hx, h⟩
          · exact .inr (.inl ⟨hx, by omega⟩)
        · rcases HC3.out with h | h
          · exact absurd h hx
          · rcases Nat.lt_or_ge q k with h' | h'
            · exact .inr (.inr (.inl ⟨hx, h'⟩))
            · exact .inr (.inr (.inr ⟨hx, by omega⟩)))
      have HSET := Lib.hid (show X = B → stB.set k X = stB from fun e => by rw [e, ← HBB.out]; exact List.set_getElem_self _)
      have HPRE := Lib.hid (show q < k → (stB.set k X).take (q + 1) = stB.take (q + 1) from fun e => List.take_set_of_le (by omega))
      obtain ⟨S, hS⟩ : ∃ S, stB.set k X = S := ⟨_, rfl⟩
      have HSS := Lib.hid hS
      rw [hS] at M3 O3 HSET HPRE HS8
      clear hS hk7 HC3 HC
      rcases HD.out with ⟨hx, hq7⟩ | ⟨hx, hq7⟩ | ⟨hx, hqk⟩ | ⟨hx, hqk⟩
      · subst hx
        have HSE := Lib.hid (HSET.out rfl)
        rw [HSE.out] at M3
        go_wp2_with fail
        refine (if_next M3.out (next_pre q hq7)).mono ?_
        rintro e w4 ⟨F4, v4, rfl, o4, m4, t4, f4, -⟩
        obtain ⟨A4, c4, rfl⟩ := OwnC.slice o4
        have O4 := Lib.hid (OwnC.tch O3.out t4 (fun k hk h => HGF3.out (by simp [Value.ownBlock] at hk; rw [hk]; exact h)))
        have hgw3 : g < w3.heap.size := (OwnB.lt O3.out g rfl).2
        have HGF4 := Lib.hid (show g ∉ F4 from fun h => by
          rcases f4 g h with h | h
          · exact HGF3.out h
          · omega)
        have M4 := Lib.hid m4
        clear m4 t4 f4 o4 M3 O3 HGF3
        go_wp2_with fail
        exact ⟨⟨q + 1, 0, F4, _, by omega, by go_num, M4.out.below (below_alloc w4 _), (by rw [HSS.out]; exact OwnC.below O4.out (below_alloc w4 _)), HGF4, Lib.hid (.inl ⟨by omega, rfl, by rw [HSS.out, HSE.out], .inl trivial⟩)⟩, by simp [intOf]; omega⟩
      · subst hx hq7
        have HSE := Lib.hid (HSET.out rfl)
        rw [HSE.out] at M3
        go_wp2_with fail
        refine (if_next M3.out next_all).mono ?_
        rintro e w4 ⟨F4, v4, rfl, o4, m4, t4, f4, -⟩
        obtain ⟨A4, c4, rfl⟩ := OwnC.slice o4
        have O4 := Lib.hid (OwnC.tch O3.out t4 (fun k hk h => HGF3.out (by simp [Value.ownBlock] at hk; rw [hk]; exact h)))
        have hgw3 : g < w3.heap.size := (OwnB.lt O3.out g rfl).2
        have HGF4 := Lib.hid (show g ∉ F4 from fun h => by
          rcases f4 g h with h | h
          · exact HGF3.out h
          · omega)
        have M4 := Lib.hid m4
        clear m4 t4 f4 o4 M3 O3 HGF3
        go_wp2_with fail
        exact ⟨⟨8, 1, F4, _, by omega, by go_num, M4.out.below (below_alloc w4 _), (by rw [HSS.out]; exact OwnC.below O4.out (below_alloc w4 _)), HGF4, Lib.hid (.inr ⟨rfl, rfl, rfl, trivial⟩)⟩, by simp [intOf]⟩
      · have hxn : X.toNat ≠ B.toNat := fun h => hx (UInt8.toNat_inj.1 h)
        have hx1 : ((X.toNat : Int) == (B.toNat : Int)) = false := by rw [beq_eq_false_iff_ne]; omega
        have hx2 : ((X.toNat : Int) != (B.toNat : Int)) = true := by rw [bne, hx1]; rfl
        have hx3 : ¬ (X.toNat : Int) = B.toNat := by omega
        have hqk' : (q : Int) < k := by omega
        have hq7' : q < 7 := by omega
        rw [HPRE.out hqk] at M3
        have HX := Lib.hid hx
        clear hx hxn
        go_wp2_with fail
        refine (if_next M3.out (next_pre q (by omega))).mono ?_
        rintro e w4 ⟨F4, v4, rfl, o4, m4, t4, f4, -⟩
        obtain ⟨A4, c4, rfl⟩ := OwnC.slice o4
        have O4 := Lib.hid (OwnC.tch O3.out t4 (fun k hk h => HGF3.out (by simp [Value.ownBlock] at hk; rw [hk]; exact h)))
        have hgw3 : g < w3.heap.size := (OwnB.lt O3.out g rfl).2
        have HGF4 := Lib.hid (show g ∉ F4 from fun h => by
          rcases f4 g h with h | h
          · exact HGF3.out h
          · omega)
        have M4 := Lib.hid m4
        clear m4 t4 f4 o4 M3 O3 HGF3
        go_wp2_with fail
        exact ⟨⟨q + 1, 0, F4, _, by omega, by go_num, M4.out.below (below_alloc w4 _), (by rw [HSS.out]; exact OwnC.below O4.out (below_alloc w4 _)), HGF4, Lib.hid (.inl ⟨by omega, rfl, by rw [HSS.out]; exact (HPRE.out hqk).symm, .inr (by omega)⟩)⟩, by simp [intOf]; omega⟩
      · have hxn : X.toNat ≠ B.toNat := fun h => hx (UInt8.toNat_inj.1 h)
        have hx1 : ((X.toNat : Int) == (B.toNat : Int)) = false := by rw [beq_eq_false_iff_ne]; omega
        have hx2 : ((X.toNat : Int) != (B.toNat : Int)) = true := by rw [bne, hx1]; rfl
        have hx3 : ¬ (X.toNat : Int) = B.toNat := by omega
        have HX := Lib.hid hx
        subst hqk
        have hbad := Lib.hid (next_bad q X hk8 (by rw [HBB.out]; exact hx))
        rw [HSS.out] at hbad
        clear hx hxn
        go_wp2_with fail
        refine (if_next M3.out hbad.out).mono ?_
        rintro e w4 ⟨F4, v4, rfl, o4, m4, t4, f4, -⟩
        obtain ⟨A4, c4, rfl⟩ := OwnC.slice o4
        have M4 := Lib.hid (m4.below (below_alloc w4 (.cells #[.int .u16 0, .slice A4 0 c4] 39)))
        have R4 := Lib.hid ((HB.out.below m4.old).below (below_alloc w4 (.cells #[.int .u16 0, .slice A4 0 c4] 39)))
        clear m4 t4 f4 o4 M3 O3 HGF3
        go_wp2_with fail
        refine (if_put M4.out R4.out HL.out (n := 0) (l' := []) (by simp [tookI, roomI]) (by simp)).mono ?_
        rintro e w5 ⟨F5, rfl, m5, -, -⟩
        have M5 := Lib.hid m5
        clear m5 M4 R4
        go_wp2_with fail
        refine (works_calls _).mono ?_
        rintro e w6 ⟨rfl, b6⟩
        have B6 := Lib.hid (below_then M5.out.old M5.out.old.size b6)
        clear b6
        go_wp2_with fail
        go_ret
        exact ⟨rfl, B6.out⟩
    · obtain rfl : q = 8 := by omega
      have hc : ph = 1 ∧ l' = [] := by
        rcases HC.out with ⟨h, -⟩ | ⟨-, h1, h2, -⟩
        · omega
        · exact ⟨h1, h2⟩
      obtain ⟨rfl, rfl⟩ := hc
      clear HC
      go_wp2_with fail
      refine (istart_calls _).mono ?_
      rintro e w5 ⟨rfl, o5, b5⟩
      obtain ⟨d0, -⟩ := o5.cell_at 0 (by decide)
      obtain ⟨d5, -⟩ := o5.cell_at 5 (by decide)
      have hz5 : wr.heap.size < w5.heap.size := (OwnB.lt o5 _ rfl).2
      have M5 := Lib.hid (M.out.below b5)
      clear o5 b5 M O HGF
      go_wp2_with fail
      refine (if_held M5.out (n := 0) rfl).mono ?_
      rintro e w6 ⟨rfl, rfl⟩
      go_wp2_with fail
      refine (works_calls _).mono ?_
      rintro e w7 ⟨rfl, b7⟩
      have B7 := Lib.hid (below_then M5.out.old M5.out.old.size b7)
      clear b7
      go_wp2_with fail
      go_ret
      exact ⟨rfl, B7.out⟩
theorem ihead_row {w : World} (A : Option Addr) (c : Nat) (l : List UInt8) (h : Rd w A c l) (x : Int) (hx : (Lit.int .u8 x).wf = true) (y : Int) (hy : (Lit.int .u8 y).wf = true) :
    Calls Try.prog 6 #[.slice A l.length c, .int .u8 x, .int .u8 y] w fun e w' => e = .returned (.bool true) ∧ Below w.heap.size w w' := by
  obtain ⟨h1, h2⟩ := wf_u8 hx
  obtain ⟨h3, h4⟩ := wf_u8 hy
  obtain ⟨n, rfl⟩ := Int.eq_ofNat_of_zero_le h1
  obtain ⟨m, rfl⟩ := Int.eq_ofNat_of_zero_le h3
  have := ihead_calls A l.length c l n (UInt8.ofNat m) w rfl h (by omega)
  rwa [show (((UInt8.ofNat m).toNat : Nat) : Int) = m by simp; omega] at this
end Go.Proofs.Ytmeljnohkhkfmaa

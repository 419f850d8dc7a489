import Derived.Test.YtmeljnohkhkfmaaDuo
import Derived.Test.YtmeljnohkhkfmaaFrs
set_option linter.unusedVariables false
set_option linter.unusedSimpArgs false
namespace Go.Proofs.Ytmeljnohkhkfmaa
open Go.RowKit

set_option maxRecDepth 100000 in
set_option maxHeartbeats 8000000 in
theorem iplays_large (A : Option Addr) (n c : Nat) (ps : List PieceAt) (sz : Nat) (As : Option Addr) (ns cs : Nat) (w : World) (h : Rws w A c ps) (hn : ps.length = n) (hL : largeL ps = true) :
    Calls Try.prog 3 #[.int .u32 sz, .slice A n c, .slice As ns cs] w fun e w' => e = .returned (.bool true) ∧ Below w.heap.size w w' := by
  go_enter Try.func3, Try.ntmps3
  go_wp2_with fail
  refine (large_calls A n c ps _ h hn hL).mono ?_
  rintro e w1 ⟨rfl, rfl⟩
  go_wp2_with fail
  refine (works_calls _).mono ?_
  rintro e w2 ⟨rfl, b2⟩
  have B2 := Lib.hid b2
  clear b2
  go_wp2_with fail
  go_ret
  exact ⟨rfl, B2.out⟩
set_option maxRecDepth 100000 in
set_option maxHeartbeats 8000000 in
theorem iplays_bad (A : Option Addr) (n c : Nat) (ps : List PieceAt) (sz : Nat) (As : Option Addr) (ns cs : Nat) (w : World) (h : Rws w A c ps) (hn : ps.length = n) (hL : largeL ps = false) (hs : sz < 512 ∨ 4096 < sz) (hm : sz ≤ 4294967295) :
    Calls Try.prog 3 #[.int .u32 sz, .slice A n c, .slice As ns cs] w fun e w' => e = .returned (.bool true) ∧ Below w.heap.size w w' := by
  have H := Lib.hid (And.intro h (And.intro hn hL))
  have HS := Lib.hid hs
  have hle := h.le
  have hmx := h.max
  rw [hn] at hle
  clear h hn hL hs
  by_cases hz : (0 : Int) < n
  all_goals
    go_enter Try.func3, Try.ntmps3
    go_wp2_with fail
    refine (large_calls A n c ps _ H.out.1 H.out.2.1 H.out.2.2).mono ?_
    rintro e w1 ⟨rfl, rfl⟩
    go_wp2_with fail
    refine (inew_bad sz w HS.out hm).mono ?_
    rintro e w1 ⟨rfl, rfl⟩
    go_wp2_with fail
    refine (rnew_bad sz w HS.out hm).mono ?_
    rintro e w1 ⟨rfl, rfl⟩
    go_wp2_with fail
    go_loopw [11, 12, 13, 14, 15, 16, 17, 18, 19, 20] (fun i _ _ _ _ _ _ _ _ _ wr => i = .int .i64 (0 : Nat) ∧ w = wr) (fun _ _ _ _ _ _ _ _ _ _ _ => 0)
    case atStart => exact ⟨rfl, rfl⟩
    case round =>
      obtain ⟨rfl, rfl⟩ := hrel
      go_wp2_with fail
      refine (works_calls _).mono ?_
      rintro e w2 ⟨rfl, b2⟩
      have B2 := Lib.hid b2
      clear b2
      go_wp2_with fail
      go_ret
      exact ⟨rfl, B2.out⟩

theorem kept_n {g base n : Nat} {B : Option Addr} {d : Nat} {l : List UInt8} {w : World} (h : MemB w base (.slice (some ⟨g, 0, none⟩) n (n + 11)) l (places n)) (hp : Rd w B d l) (hn : l.length = n) (hb : n ≤ 20000) :
    Calls Try.prog 16 #[.slice (some ⟨g, 0, none⟩) n (n + 11), .slice B n d] w fun e w' => e = .returned (.bool true) ∧ w = w' := by
  subst hn
  exact kept_calls g base B d l w h hp hb
theorem MemB.rd_n {w : World} {base n c : Nat} {A : Option Addr} {l sp : List UInt8} (h : MemB w base (.slice A n c) l sp) (hn : l.length = n) : Rd w A c l := by
  subst hn
  obtain ⟨A', c', e, hr⟩ := h.rd
  cases e
  exact hr
theorem OwnB.rd_n {w : World} {base n c : Nat} {A : Option Addr} {l : List UInt8} (h : OwnB w base (.slice A n c) l) (hn : l.length = n) : Rd w A c l := by
  subst hn
  obtain ⟨A', c', e, hr⟩ := h.rd
  cases e
  exact hr
/-- The block's cells are bytes. -/
def ByB (w : World) (g n : Nat) : Prop := ∀ j, j < n → (∃ z : Int, w.cell? ⟨g, j, none⟩ = some (.int .u8 z)) ∧ w.frozen? ⟨g, j, none⟩ = false
theorem MemB.by {w : World} {base g n c : Nat} {l sp : List UInt8} (h : MemB w base (.slice (some ⟨g, 0, none⟩) n c) l sp) : ByB w g l.length := by
  rcases h with ⟨e, -⟩ | ⟨g', e, e1, h1, h2, h3⟩
  · cases e
  · cases e1
    exact fun j hj => ⟨⟨_, cell_of_heap h2 j (u8 l[j]) (by rw [u8s_append, List.getElem?_append_left (by simpa [u8s] using hj)]; simp [u8s, hj])⟩, froz_of_heap h2 j⟩
theorem ByB.set {w : World} {g n : Nat} (h : ByB w g n) (j : Nat) (z : Int) (hj : j < n) : ByB (w.setCell ⟨g, j, none⟩ (.int .u8 z)) g n := by
  intro k hk
  obtain ⟨⟨z0, h1⟩, h2⟩ := h k hk
  refine ⟨?_, by rw [World.frozen?_setCell]; exact h2⟩
  by_cases e : j = k
  · subst e
    exact ⟨z, World.cell?_setCell_same _ _ _ h1⟩
  · exact ⟨z0, by rw [World.cell?_setCell_other _ _ _ _ (fun h => e (by cases h; rfl))]; exact h1⟩

set_option maxRecDepth 100000 in
set_option maxHeartbeats 8000000 in
theorem iplays_ok (A : Option Addr) (n c : Nat) (ps : List PieceAt) (M : Nat) (As : Option Addr) (ns cs : Nat) (asl : List UInt8) (w : World) (h : Rws w A c ps) (hn : ps.length = n) (hL : largeL ps = false) (hM1 : 512 ≤ M) (hM2 : M ≤ 4096) (ha : Rd w As cs asl) (hns : asl.length = ns) :
    Calls Try.prog 3 #[.int .u32 M, .slice A n c, .slice As ns cs] w fun e w' => e = .returned (.bool true) ∧ Below w.heap.size w w' := by
  have H := Lib.hid h
  have HN := Lib.hid hn
  have HLB := Lib.hid hL
  have HA := Lib.hid ha
  have HNS := Lib.hid hns
  have hle := h.le
  have hmx := h.max
  rw [hn] at hle
  obtain ⟨hn4, -, hfew⟩ := large_no hL
  rw [hn] at hn4
  have HFEW := Lib.hid hfew
  have hnsc := ha.len
  rw [hns] at hnsc
  obtain ⟨hnsc1, hnsc2⟩ := hnsc
  clear h hn hL ha hns hfew
  go_enter Try.func3, Try.ntmps3
  go_wp2_with fail
  refine (large_calls A n c ps _ H.out HN.out HLB.out).mono ?_
  rintro e w1 ⟨rfl, rfl⟩
  go_wp2_with fail
  refine (inew_ok M w hM1 hM2).mono ?_
  rintro e w1 ⟨rfl, i1, b1⟩
  have I1 := Lib.hid (And.intro i1 b1)
  clear i1 b1
  go_wp2_with fail
  refine (rnew_ok M w1 hM1 hM2).mono ?_
  rintro e w2 ⟨rfl, i2, b2⟩
  have D2 := Lib.hid (duo_new (Below.refl _ w) I1.out.1 I1.out.2 i2 b2)
  obtain ⟨a, hea⟩ : ∃ a, w.heap.size = a := ⟨_, rfl⟩
  obtain ⟨r, her⟩ : ∃ r, w1.heap.size = r := ⟨_, rfl⟩
  rw [hea, her] at D2
  rw [hea, her]
  clear hea her i2 b2 I1
  go_wp2_with fail
  go_loopw [11, 12, 13, 14, 15, 16, 17, 18, 19, 20] (fun i _ _ _ _ _ _ _ _ _ wr => ∃ (q ph : Nat) (l : List UInt8), q ≤ n ∧ i = .int .i64 q ∧ Duo w wr a r [] M l ph l ph) (fun i _ _ _ _ _ _ _ _ _ _ => n - (intOf i).toNat)
  case atStart => exact ⟨0, 0, [], by omega, rfl, D2.out⟩
  case round =>
    obtain ⟨q, ph, l, hq, rfl, hd⟩ := hrel
    have D := Lib.hid hd
    clear hd D2
    obtain ⟨wo, rfl⟩ : ∃ wo : World, wo = wr := ⟨_, rfl⟩
    by_cases hqn : q < n
    · have hqn' : (q : Int) < n := by omega
      have hql : q < ps.length := by rw [HN.out]; exact hqn
      obtain ⟨b0, o0, e, x0, -⟩ := (H.out.below D.out.old).at_ q hql
      subst e
      have hn8 := HFEW.out _ (List.getElem_mem hql)
      obtain ⟨⟨pA, pc, pl⟩, hp⟩ : ∃ p, ps[q] = p := ⟨_, rfl⟩
      have HROW := Lib.hid (show Rd w pA pc pl by
        obtain ⟨_, _, _, _, hr⟩ := H.out.at_ q hql
        rw [hp] at hr
        exact hr)
      rw [hp] at x0 hn8
      simp only at x0 hn8
      obtain ⟨nb, hnb⟩ : ∃ nb, pl.length = nb := ⟨_, rfl⟩
      have HNB := Lib.hid hnb
      have hb0 : b0 < w.heap.size := by
        obtain ⟨b1, o1, e, y0, -⟩ := H.out.at_ q hql
        cases e
        exact cell_lt y0
      have HB0 := Lib.hid hb0
      rw [hnb] at x0 hn8
      clear hp hnb hb0
      go_wp2_with fail
      have hrm := roomy_calls pA pc pl wo (HROW.out.below D.out.old) (by rw [HNB.out]; omega)
      rw [HNB.out] at hrm
      refine hrm.mono ?_
      clear hrm
      rintro e w3 ⟨rfl, m3, b3⟩
      have D3 := Lib.hid (D.out.guest (N := [wo.heap.size]) b3 (fun k hk => by
        simp at hk
        rw [hk]
        rcases m3 with ⟨e, -⟩ | ⟨g', e, e1, h1, h2, h3⟩
        · cases e
        · cases e1; exact ⟨Nat.le_refl _, heap_lt h2⟩))
      have M3 := Lib.hid m3
      obtain ⟨g, hg⟩ : ∃ g, wo.heap.size = g := ⟨_, rfl⟩
      rw [hg] at D3 M3 ⊢
      have x3 := stays_ b3 x0
      clear m3 b3 x0 hg
      obtain ⟨T, hT⟩ : ∃ T, tookI M l ph pl = T := ⟨_, rfl⟩
      have HT := Lib.hid hT
      obtain ⟨l', hl'⟩ : ∃ l', l ++ pl.take T = l' := ⟨_, rfl⟩
      have HL' := Lib.hid hl'
      clear hT hl'
      go_wp2_with fail
      go_region_held3 (fun W' => W'.cell? ⟨b0, o0 + q, none⟩ = some (.slice pA nb pc)) (go_keep)
        (first
          | (go_at_call 14; refine (duo_put1 (D3.out.below (below_drew _)) ((M3.out.rd_n HNB.out).below (below_drew _)) HNB.out HT.out HL'.out).mono ?_; rintro e w4 ⟨rfl, d4, z4⟩; have D4 := Lib.hid d4; have M4 := Lib.hid (z4.memB (M3.out.below (below_drew _)) (by simp [Value.ownBlock])); have x4 := z4.cell (stays_ (below_drew _) x3) (.inr HB0.out); clear d4 z4)
          | (go_at_call 15; refine (duo_put2 D4.out (HROW.out.below D4.out.old) HNB.out HT.out HL'.out).mono ?_; rintro e w5 ⟨rfl, d5, z5⟩; have D5 := Lib.hid d5; have M5 := Lib.hid (z5.memB M4.out (by simp [Value.ownBlock])); have x5 := z5.cell x4 (.inr HB0.out); clear d5 z5)
          | (go_at_call 16; refine (kept_n M5.out (HROW.out.below D5.out.old) HNB.out (by omega)).mono ?_; rintro e w6 ⟨rfl, rfl⟩))
      go_wp2_with fail
      have DY := Lib.hid (And.intro D5.out (by have := MemB.by M5.out; rw [HNB.out] at this; exact this : ByB w5 g nb))
      clear x5 x4 x3
      go_loopw [13] (fun j wr => ∃ k : Nat, k ≤ nb ∧ j = .int .i64 k ∧ Duo w wr a r ([g] ++ []) M l' ph l' ph ∧ ByB wr g nb) (fun j _ => nb - (intOf j).toNat)
      case atStart => exact ⟨0, by omega, rfl, DY.out.1, DY.out.2⟩
      case round =>
        obtain ⟨k, hk, rfl, hd, hy⟩ := hrel
        have DD := Lib.hid hd
        have HY := Lib.hid hy
        clear hd hy DY
        by_cases hkn : k < nb
        · have hkn' : (k : Int) < nb := by omega
          obtain ⟨⟨z, y0⟩, yf⟩ := HY.out k hkn
          go_wp2_with fail
          exact ⟨⟨k + 1, by omega, by go_num, DD.out.zset ((Tch.refl _ _).setCell _ (by simp)), HY.out.set k _ hkn⟩, by simp [intOf]; omega⟩
        · obtain rfl : k = nb := by omega
          clear HY
          have HCA : ns = 0 ∨ 0 < ns := by omega
          rcases HCA with hns0 | hns0
          all_goals
            first
              | (subst hns0
                 go_upto_region 20 with fail
                 obtain ⟨m, hm4, hm⟩ : ∃ m : Nat, m ≤ 4 ∧ (1 : Int) = (m : Int) := ⟨1, by omega, rfl⟩
                 rw [show Value.int .i64 1 = Value.int .i64 (m : Int) by rw [hm]]
                 clear hm)
              | (obtain ⟨j, hj⟩ : ∃ j, q % ns = j := ⟨_, rfl⟩
                 have hjn : j < ns := by rw [← hj]; exact Nat.mod_lt _ hns0
                 have hjn' : (j : Int) < ns := by omega
                 have hrem : ((q : Int) % (ns : Int)) = (j : Int) := by rw [← hj]; rfl
                 obtain ⟨ab, ao, rfl, hap⟩ := (HA.out.below DD.out.old).plain (by rw [HNS.out]; exact hns0)
                 have y0 := hap j (by rw [HNS.out]; exact hjn)
                 obtain ⟨y, hy⟩ : ∃ y, asl[j]'(by rw [HNS.out]; exact hjn) = y := ⟨_, rfl⟩
                 rw [hy] at y0
                 obtain ⟨m, hm⟩ : ∃ m, y.toNat % 5 = m := ⟨_, rfl⟩
                 have hm4 : m ≤ 4 := by omega
                 have hmi : ((y.toNat : Int) % 5) = (m : Int) := by omega
                 have hyl := y.toNat_lt
                 clear hap hy hj hm
                 go_upto_region 20 with fail
                 rw [hmi]
                 clear y0 hmi hrem hyl hjn hjn')
            go_wp2_with fail
            go_loopw [15, 16, 17, 18, 19, 20] (fun i _ _ _ _ _ wr => ∃ (t ph : Nat) (l : List UInt8), t ≤ m ∧ i = .int .i64 t ∧ Duo w wr a r [] M l ph l ph) (fun i _ _ _ _ _ _ => m - (intOf i).toNat)
            case atStart => exact ⟨0, ph, l', by omega, rfl, DD.out.less (by simp)⟩
            case round =>
              obtain ⟨t, ph3, l3, ht, rfl, hd3⟩ := hrel
              have D6 := Lib.hid hd3
              clear hd3 DD D5 D4 D3 M3 M4 M5 D
              by_cases htm : t < m
              · have htm' : (t : Int) < m := by omega
                obtain ⟨⟨kd, ch, bd, l7, ph7⟩, hr7⟩ : ∃ r, nextI M l3 ph3 = r := ⟨_, rfl⟩
                have HR7 := Lib.hid hr7
                clear hr7
                go_wp2_with fail
                refine (duo_next1 D6.out HR7.out).mono ?_
                rintro e w8 ⟨v8, rfl, o8, d8, z8⟩
                obtain ⟨A8, c8, rfl⟩ := OwnC.slice o8
                obtain ⟨nd, hnd⟩ : ∃ nd, bd.length = nd := ⟨_, rfl⟩
                have HND := Lib.hid hnd
                rw [hnd] at d8 o8 ⊢
                have O8 := Lib.hid (show OwnB w8 _ (.slice A8 nd c8) bd from o8)
                have D8 := Lib.hid d8
                clear d8 o8 z8 hnd
                go_wp2_with fail
                refine (duo_next2 (D8.out.alloc (.cells #[.int .u16 ch, .slice A8 nd c8] 39)) HR7.out).mono ?_
                rintro e w9 ⟨v9, rfl, o9, d9, z9⟩
                obtain ⟨A9, c9, rfl⟩ := OwnC.slice o9
                rw [HND.out] at o9 ⊢
                have O9 := Lib.hid (show OwnB w9 _ (.slice A9 nd c9) bd from o9)
                have K9 := Lib.hid (z9.frB (FrB.new w8 ch (.slice A8 nd c8)) (by simp))
                have P9 := Lib.hid (z9.ownB (O8.out.alloc _) (fun g hg => by simp [hg]))
                have D9 := Lib.hid d9
                obtain ⟨X, hX⟩ : ∃ X, w8.heap.size = X := ⟨_, rfl⟩
                have HXG := Lib.hid (show ∀ g, (Value.slice A8 nd c8).ownBlock = some g → g ≠ X from fun g hg => by have := (OwnB.lt O8.out g hg).2; omega)
                rw [hX] at K9 D9 ⊢
                obtain ⟨q0, q1, q2⟩ := K9.out.cells
                have hzX : X < w9.heap.size := heap_lt K9.out
                clear d9 o9 z9 D8 O8
                go_wp2_with fail
                refine (same_n (P9.out.rd_n HND.out |>.below (below_alloc w9 _)) (O9.out.rd_n HND.out |>.below (below_alloc w9 _)) HND.out HND.out (b := true) (by simp)).mono ?_
                rintro e w10 ⟨rfl, b10⟩
                have B10 := Lib.hid (below_then (below_alloc w9 (.cells #[.int .u16 ch, .slice A9 nd c9] 39)) (by simp) b10)
                have D10 := Lib.hid (D9.out.below B10.out)
                have K10 := Lib.hid (K9.out.tch (Tch.of_below [] B10.out) (by simp))
                have P10 := Lib.hid (OwnC.below P9.out B10.out)
                clear b10 q0 q1 q2 hzX D9 K9 P9 O9
                go_wp2_with fail
                go_loopw [20] (fun i wr => ∃ (y : Nat) (ys : List UInt8), y ≤ nd ∧ i = .int .i64 y ∧ Duo w wr a r (X :: ((Value.slice A8 nd c8).ownBlock.toList ++ [])) M l7 ph7 l7 ph7 ∧ FrB wr X ch (.slice A8 nd c8) ∧ OwnB wr 0 (.slice A8 nd c8) ys ∧ Hid (ys.length = nd)) (fun i _ => nd - (intOf i).toNat)
                case atStart => exact ⟨0, bd, by omega, rfl, D10.out, K10.out, P10.out.base (Nat.zero_le _), HND⟩
                case round =>
                  obtain ⟨y, ys, hy, rfl, hd, hk, ho, HYS⟩ := hrel
                  have DX := Lib.hid hd
                  have KX := Lib.hid hk
                  have OX := Lib.hid ho
                  obtain ⟨q0, q1, q2⟩ := hk.cells
                  have hlc := (ho.rd_n HYS.out).len
                  rw [HYS.out] at hlc
                  obtain ⟨hlc1, hlc2⟩ := hlc
                  clear hd hk ho D10 K10 P10
                  by_cases hyn : y < nd
                  · have hyn' : (y : Int) < nd := by omega
                    obtain ⟨g8, cap8, e8, -, -, -⟩ := OX.out.form (by rw [HYS.out]; omega)
                    injection e8 with e1 e2 e3
                    subst e1 e3
                    clear e2
                    obtain ⟨s0, s1⟩ := OX.out.cell_at y (by rw [HYS.out]; exact hyn)
                    have hgX := HXG.out g8 rfl
                    have hgX' : X ≠ g8 := fun h => hgX h.symm
                    go_wp2_with fail
                    exact ⟨⟨y + 1, ys.set y 0, by omega, by go_num, DX.out.zset ((Tch.refl _ _).setCell _ (by simp [Value.ownBlock])), KX.out.tch ((Tch.refl [g8] _).setCell _ (by simp)) (by simpa using hgX'), OX.out.set y (by rw [HYS.out]; exact hyn) 0 0 rfl, Lib.hid (by rw [List.length_set, HYS.out])⟩, by simp [intOf]; omega⟩
                  · obtain rfl : y = nd := by omega
                    go_wp2_with fail
                    exact ⟨⟨t + 1, ph7, l7, by omega, by go_num, DX.out.less (by simp)⟩, by simp [intOf]; omega⟩
              · obtain rfl : t = m := by omega
                obtain ⟨L3, hL3⟩ : ∃ L3, l3.length = L3 := ⟨_, rfl⟩
                have HL3 := Lib.hid hL3
                obtain ⟨R3, hR3⟩ : ∃ R3, roomI M l3 ph3 = R3 := ⟨_, rfl⟩
                have HR3 := Lib.hid hR3
                obtain ⟨A4, c4, y0, -, -⟩ := D6.out.len hL3
                clear hL3 hR3
                go_wp2_with fail
                go_region_held3 (fun W' => W'.cell? ⟨r, 1, none⟩ = some (.slice A4 L3 c4)) (go_keep)
                  (first
                    | (go_at_call 20; refine (duo_held (D6.out.below (below_drew _)) HL3.out).mono ?_; rintro e w8 ⟨rfl, rfl⟩)
                    | (go_at_call 21; refine (duo_room1 (D6.out.below (below_drew _)) HR3.out).mono ?_; rintro e w8 ⟨rfl, b8⟩; have D8 := Lib.hid ((D6.out.below (below_drew _)).below b8); have y8 := stays_ b8 (stays_ (below_drew _) y0); clear b8)
                    | (go_at_call 22; refine (duo_room2 D8.out HR3.out).mono ?_; rintro e w9 ⟨rfl, b9⟩; have D9 := Lib.hid (D8.out.below b9); have y9 := stays_ b9 y8; clear b9))
                go_wp2_with fail
                exact ⟨⟨q + 1, ph3, l3, by omega, by go_num, D9.out⟩, by simp [intOf]; omega⟩
    · obtain rfl : q = n := by omega
      go_wp2_with fail
      refine (works_calls _).mono ?_
      rintro e w7 ⟨rfl, b7⟩
      have B7 := Lib.hid (below_then D.out.old D.out.old.size b7)
      clear b7
      go_wp2_with fail
      go_ret
      exact ⟨rfl, B7.out⟩
theorem iplays_row {w : World} (x : Int) (hx : (Lit.int .u32 x).wf = true) (A : Option Addr) (c : Nat) (ps : List PieceAt) (h : Rws w A c ps) (B : Option Addr) (d : Nat) (m : List UInt8) (h2 : Rd w B d m) :
    Calls Try.prog 3 #[.int .u32 x, .slice A ps.length c, .slice B m.length d] w fun e w' => e = .returned (.bool true) ∧ Below w.heap.size w w' := by
  obtain ⟨h3, h4⟩ := wf_u32 hx
  obtain ⟨M, rfl⟩ := Int.eq_ofNat_of_zero_le h3
  cases hL : largeL ps with
  | true => exact iplays_large A ps.length c ps M B m.length d w h rfl hL
  | false =>
    by_cases hM : 512 ≤ M ∧ M ≤ 4096
    · exact iplays_ok A ps.length c ps M B m.length d m w h rfl hL hM.1 hM.2 h2 rfl
    · exact iplays_bad A ps.length c ps M B m.length d w h rfl hL (by omega) (by omega)
end Go.Proofs.Ytmeljnohkhkfmaa

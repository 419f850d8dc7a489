import Derived.Test.YtkihafkiinhbkaaWorks01
import Derived.Test.YtkihafkiinhbkaaLaw9
import Derived.Deep.RegionHeld3
import Derived.IntWalk
set_option linter.unusedVariables false
set_option linter.unusedSimpArgs false
namespace Go.Proofs.Ytkihafkiinhbkaa
open Go.RowKit

theorem stays {B : Nat} {w w' : World} {a : Addr} {v : Value} (h : Below B w w') (hc : w.cell? a = some v) (hB : a.block < B) : w'.cell? a = some v := (h.cell hB).trans hc
theorem stays_ {w w' : World} {a : Addr} {v : Value} (h : Below w.heap.size w w') (hc : w.cell? a = some v) : w'.cell? a = some v := stays h hc (World.block_lt_of_cell? _ _ hc)
/-- How wide a piece's length is. -/
def wdOf (bs : List Bool) (i : Nat) : Nat := if bs.getD i false then 4 else 1
theorem wdOf_cases (bs : List Bool) (i : Nat) : wdOf bs i = 1 ∨ wdOf bs i = 4 := by
  unfold wdOf
  split
  · right; rfl
  · left; rfl

/-- A slice of bools as it came in. -/
structure Bls (w : World) (A : Option Addr) (c : Nat) (bs : List Bool) : Prop where
  le : bs.length ≤ c
  max : c ≤ 9223372036854775807
  at_ : ∀ (i : Nat) (hi : i < bs.length), ∃ b o, A = some ⟨b, o, none⟩ ∧ w.cell? ⟨b, o + i, none⟩ = some (.bool bs[i])
theorem Bls.below {w w' : World} {A : Option Addr} {c : Nat} {bs : List Bool} (h : Bls w A c bs) (hb : Below w.heap.size w w') : Bls w' A c bs :=
  ⟨h.le, h.max, fun i hi => by
    obtain ⟨b, o, h1, h2⟩ := h.at_ i hi
    exact ⟨b, o, h1, stays_ hb h2⟩⟩

set_option maxHeartbeats 400000 in
theorem wide_calls (A : Option Addr) (c : Nat) (bs : List Bool) (i : Nat) (w : World) (h : Bls w A c bs) :
    Calls Try.prog 35 #[.slice A bs.length c, .int .i64 i] w fun e w' => e = .returned (.int .i64 (wdOf bs i)) ∧ w = w' := by
  have hlc := h.le
  have hmx := h.max
  by_cases hi : i < bs.length
  · obtain ⟨b, o, rfl, hc⟩ := h.at_ i hi
    obtain ⟨x, hx⟩ : ∃ x, bs[i] = x := ⟨_, rfl⟩
    have HW := Lib.hid (show wdOf bs i = if x then 4 else 1 by rw [wdOf, List.getD_eq_getElem?_getD, List.getElem?_eq_getElem hi, hx]; rfl)
    rw [hx] at hc
    obtain ⟨n, hn⟩ : ∃ n, bs.length = n := ⟨_, rfl⟩
    rw [hn] at hi hlc ⊢
    have hi' : (i : Int) < n := by omega
    have hi2 : decide ((i : Int) < n) = true := by simpa using hi
    clear h hx hn
    cases x
    · go_enter Try.func35, Try.ntmps35
      go_wp2
      go_ret
      exact ⟨by rw [HW.out]; rfl, rfl⟩
    · go_enter Try.func35, Try.ntmps35
      go_wp2
      go_ret
      exact ⟨by rw [HW.out]; rfl, rfl⟩
  · have HW := Lib.hid (show wdOf bs i = 1 by rw [wdOf, List.getD_eq_getElem?_getD, List.getElem?_eq_none (by omega)]; rfl)
    obtain ⟨n, hn⟩ : ∃ n, bs.length = n := ⟨_, rfl⟩
    rw [hn] at hi hlc ⊢
    have hi2 : decide ((i : Int) < n) = false := by simp; omega
    have hi3 : decide (i < n) = false := by simp; omega
    clear h hn
    go_enter Try.func35, Try.ntmps35
    go_wp2
    go_ret
    exact ⟨by rw [HW.out]; rfl, rfl⟩

/-- A piece with its length ahead. -/
def pw (wd : Nat) (p : List UInt8) : List UInt8 := bytesBE p.length wd ++ p
theorem pw_length (wd : Nat) (p : List UInt8) : (pw wd p).length = wd + p.length := by rw [pw, List.length_append, bytesBE_length]
theorem may_pw {wd n : Nat} (hw : wd = 1 ∨ wd = 4) (hn : n ≤ 255) : mayB wd n = true := by
  rcases hw with rfl | rfl
  · simp [mayB]; omega
  · simp [mayB]; omega
theorem be_pw {wd : Nat} (p r : List UInt8) (hw : wd = 1 ∨ wd = 4) (hn : p.length ≤ 255) : be ((pw wd p ++ r).take wd) = p.length := by
  rw [pw, List.append_assoc, List.take_append_of_le_length (by rw [bytesBE_length]; omega), List.take_of_length_le (by rw [bytesBE_length]; omega), be_bytes]
  apply Nat.mod_eq_of_lt
  rcases hw with rfl | rfl
  · simp; omega
  · simp; omega
theorem drop_pw (wd : Nat) (p r : List UInt8) : (pw wd p ++ r).drop wd = p ++ r := by
  rw [pw, List.append_assoc, List.drop_append_of_le_length (by rw [bytesBE_length]; omega), List.drop_of_length_le (by rw [bytesBE_length]; omega), List.nil_append]

/-- The piece with which bytes begin that a piece was laid into. -/
theorem piece_pw (A : Option Addr) (c n : Nat) (wd : Nat) (p r l : List UInt8) (w : World) (h : Rd w A c l) (hl : l = pw wd p ++ r) (hn : n = l.length) (hw : wd = 1 ∨ wd = 4) (hp : p.length ≤ 255) (hb : l.length ≤ 140737488351232) :
    Calls Try.prog 33 #[.slice A n c, .int .i64 wd] w fun e w' => ∃ v1 v2, e = .returned (.tuple #[v1, v2, .int .i64 0]) ∧ OwnB w' w.heap.size v1 p ∧ OwnB w' w.heap.size v2 r ∧ Below w.heap.size w w' := by
  subst hn
  have hbe := be_pw p r hw hp
  have hd := drop_pw wd p r
  rw [← hl] at hbe hd
  have hln : l.length = wd + p.length + r.length := by rw [hl, List.length_append, pw_length]
  refine (piece_yes A c l wd w h hw (by omega) (by rw [hbe]; exact may_pw hw hp) (by rw [hbe]; omega) hb).mono ?_
  rintro e w' ⟨v1, v2, rfl, h1, h2, _, h3⟩
  rw [hbe, hd] at h1 h2
  rw [List.take_left] at h1
  rw [List.drop_left] at h2
  exact ⟨v1, v2, rfl, h1, h2, h3⟩
/-- Of a piece that is cut short there is none. -/
theorem piece_cut (A : Option Addr) (c n : Nat) (wd : Nat) (p l : List UInt8) (w : World) (h : Rd w A c l) (hl : l = (pw wd p).take (wd + p.length - 1)) (hn : n = l.length) (hw : wd = 1 ∨ wd = 4) (hp : p.length ≤ 255) :
    Calls Try.prog 33 #[.slice A n c, .int .i64 wd] w fun e w' => e = .returned (.tuple #[.slice none 0 0, .slice none 0 0, .int .i64 7]) ∧ w = w' := by
  subst hn
  have hln : l.length = wd + p.length - 1 := by rw [hl, List.length_take, pw_length]; omega
  by_cases h0 : p.length = 0
  · exact piece_few A c l wd w hw (by omega)
  · have hbe : be (l.take wd) = p.length := by
      have h1 := be_pw p [] hw hp
      rw [List.append_nil] at h1
      rw [hl, List.take_take, Nat.min_eq_left (by omega)]
      exact h1
    exact piece_long A c l wd w h hw (by omega) (by rw [hbe]; exact may_pw hw hp) (by rw [hbe]; omega)

/-- A row of bytes as it lies in a slice of rows. -/
structure PieceAt where
  A : Option Addr
  c : Nat
  l : List UInt8
/-- A slice of rows of bytes as it came in. -/
structure Rws (w : World) (A : Option Addr) (c : Nat) (ps : List PieceAt) : Prop where
  le : ps.length ≤ c
  max : c ≤ 9223372036854775807
  at_ : ∀ (i : Nat) (hi : i < ps.length), ∃ b o, A = some ⟨b, o, none⟩ ∧ w.cell? ⟨b, o + i, none⟩ = some (.slice (ps[i]).A (ps[i]).l.length (ps[i]).c) ∧ Rd w (ps[i]).A (ps[i]).c (ps[i]).l
theorem Rws.below {w w' : World} {A : Option Addr} {c : Nat} {ps : List PieceAt} (h : Rws w A c ps) (hb : Below w.heap.size w w') : Rws w' A c ps :=
  ⟨h.le, h.max, fun i hi => by
    obtain ⟨b, o, h1, h2, h3⟩ := h.at_ i hi
    exact ⟨b, o, h1, stays_ hb h2, h3.below hb⟩⟩

/-- Pieces one behind the other, from number k on, m of them. -/
def pws (bs : List Bool) : Nat → List PieceAt → List UInt8
  | _, [] => []
  | k, p :: r => pw (wdOf bs k) p.l ++ pws bs (k + 1) r
theorem pws_snoc (bs : List Bool) (p : PieceAt) : ∀ (k : Nat) (r : List PieceAt), pws bs k (r ++ [p]) = pws bs k r ++ pw (wdOf bs (k + r.length)) p.l
  | k, [] => by simp [pws]
  | k, q :: r => by
    rw [List.cons_append, pws, pws, pws_snoc bs p (k + 1) r, List.append_assoc, List.length_cons, show k + 1 + r.length = k + (r.length + 1) by omega]
theorem pws_take (bs : List Bool) (ps : List PieceAt) (k : Nat) (h : k < ps.length) : pws bs 0 (ps.take (k + 1)) = pws bs 0 (ps.take k) ++ pw (wdOf bs k) (ps[k]).l := by
  rw [List.take_succ_eq_append_getElem h, pws_snoc, List.length_take, Nat.zero_add, Nat.min_eq_left (by omega)]
theorem pws_drop (bs : List Bool) (ps : List PieceAt) (k : Nat) (h : k < ps.length) : pws bs k (ps.drop k) = pw (wdOf bs k) (ps[k]).l ++ pws bs (k + 1) (ps.drop (k + 1)) := by
  rw [List.drop_eq_getElem_cons h, pws]
theorem pws_len (bs : List Bool) : ∀ (k : Nat) (ps : List PieceAt), (∀ i (hi : i < ps.length), (ps[i]).l.length ≤ 255) → (pws bs k ps).length ≤ 259 * ps.length
  | _, [], _ => by simp [pws]
  | k, f :: r, h => by
    have h0 := h 0 (by simp)
    have := pws_len bs (k + 1) r (fun i hi => by have := h (i + 1) (by simp; omega); simpa using this)
    rw [pws, List.length_append, pw_length, List.length_cons]
    simp at h0
    rcases wdOf_cases bs k with e | e <;> omega

theorem slice_to (A : Option Addr) (n c m : Nat) (z : Int) (hz : z = m) (h : m ≤ c) (W : World) : (Instr.slice 23 (.slice A n c) none (some (.int .i64 z)) none).run Try.prog W = .ok (.slice A m c) W := by
  subst hz
  rw [run_slice_h W 23 A n c Try.underlying23 .i64 m (by omega) (by omega), size_u8]
  simp [Result.andThen, sliced]
  intro _
  cases A <;> rfl
set_option maxHeartbeats 800000 in
theorem orow_big (A L B : Option Addr) (c d c2 : Nat) (n m k : Nat) (w : World) (hb : 40 < n ∨ 1000 < k) :
    Calls Try.prog 12 #[.slice A n c, .slice L m d, .slice B k c2] w fun e w' => e = .returned (.bool true) ∧ Below w.heap.size w w' := by
  by_cases h1 : 40 < n
  · clear hb
    go_enter Try.func12, Try.ntmps12
    go_wp2_with (go_at_call 28; refine (works01_calls _).mono ?_; rintro e w1 ⟨rfl, h1⟩; have H1 := Lib.hid h1; clear h1)
    go_ret
    exact ⟨rfl, H1.out⟩
  · have h2 : 1000 < k := by omega
    clear hb
    go_enter Try.func12, Try.ntmps12
    go_wp2_with (go_at_call 28; refine (works01_calls _).mono ?_; rintro e w1 ⟨rfl, h1⟩; have H1 := Lib.hid h1; clear h1)
    go_ret
    exact ⟨rfl, H1.out⟩

theorem lay_drew (A B : Option Addr) (c d n : Nat) (l p : List UInt8) (wide : Nat) (W : World) (hl : Rd W A c l) (hq : Rd W B d p) (hn : n = l.length) (hw : wide = 1 ∨ wide = 4) (hp : p.length ≤ 255) (hb : l.length ≤ 100000) :
    Calls Try.prog 30 #[.slice A n c, .slice B p.length d, .int .i64 wide] W.drew fun e w' => ∃ v, e = .returned (.tuple #[v, .int .i64 0]) ∧ OwnB w' W.heap.size v (l ++ pw wide p) ∧ Below W.heap.size W w' := by
  subst hn
  refine (layPiece_yes A B c d l p wide W.drew (hl.below (Below.refl _ _).drew) (hq.below (Below.refl _ _).drew) (may_pw hw hp) (by omega) (by omega)).mono ?_
  rintro e w' ⟨v, rfl, h1, h2⟩
  rw [List.append_assoc] at h1
  exact ⟨v, rfl, h1, below_of_drew h2⟩

set_option maxRecDepth 100000 in
set_option maxHeartbeats 1000000 in
theorem orow_calls (A LA B : Option Addr) (c d c2 : Nat) (ps : List PieceAt) (bs : List Bool) (z : List UInt8) (w : World) (h : Rws w A c ps) (hB : Bls w LA d bs) (hz : Rd w B c2 z) (hb : ps.length ≤ 40) (hb2 : z.length ≤ 1000) :
    Calls Try.prog 12 #[.slice A ps.length c, .slice LA bs.length d, .slice B z.length c2] w fun e w' => e = .returned (.bool true) ∧ Below w.heap.size w w' := by
  have HF := Lib.hid h
  have HBL := Lib.hid hB
  have HZ := Lib.hid hz
  have hlc := h.le
  have hmx := h.max
  obtain ⟨N, hN⟩ : ∃ N, ps.length = N := ⟨_, rfl⟩
  rw [hN] at hb hlc ⊢
  have HN := Lib.hid hN
  clear h hN hB hz
  go_enter Try.func12, Try.ntmps12
  go_wp2_with fail
  go_loopw [7, 8, 9, 10] (fun b i _ _ wr => ∃ (k : Nat) (A' : Option Addr) (c' : Nat), k ≤ N ∧ i = .int .i64 k ∧ b = .slice A' (pws bs 0 (ps.take k)).length c' ∧ Rd wr A' c' (pws bs 0 (ps.take k)) ∧ Below w.heap.size w wr ∧ Hid (∀ j (hj : j < ps.length), j < k → (ps[j]).l.length ≤ 255)) (fun _ i _ _ _ => N - (intOf i).toNat)
  case atStart => exact ⟨0, none, 0, by omega, rfl, rfl, rd_nil w, Below.refl _ _, Lib.hid (fun j _ hj => by omega)⟩
  case round =>
    obtain ⟨k, A', c', hk, rfl, rfl, hr, hbl, HS⟩ := hrel
    have HR := Lib.hid hr
    have HB := Lib.hid hbl
    have hrl := hr.len
    clear hbl hr
    by_cases hkN : k < N
    · obtain ⟨b0, o0, rfl, g1, g2⟩ := (HF.out.below HB.out).at_ k (by rw [HN.out]; exact hkN)
      obtain ⟨f, hf⟩ : ∃ f, ps[k]'(by rw [HN.out]; exact hkN) = f := ⟨_, rfl⟩
      rw [hf] at g1 g2
      have HFk := Lib.hid hf
      have R := Lib.hid g2
      have hkN' : (k : Int) < N := by omega
      clear hf g2
      by_cases h5 : f.l.length ≤ 255
      · have HT := Lib.hid (show pws bs 0 (ps.take (k + 1)) = pws bs 0 (ps.take k) ++ pw (wdOf bs k) f.l by rw [← HFk.out]; exact pws_take bs ps k (by rw [HN.out]; exact hkN))
        have hLn : (pws bs 0 (ps.take k)).length ≤ 259 * 40 := by
          have := pws_len bs 0 (ps.take k) (fun i hi => by
            have hi' := hi
            rw [List.length_take] at hi'
            rw [List.getElem_take]
            exact HS.out i (by omega) (by omega))
          rw [List.length_take, HN.out] at this
          omega
        obtain ⟨L, hL⟩ : ∃ L, pws bs 0 (ps.take k) = L := ⟨_, rfl⟩
        have HLL := Lib.hid hL
        rw [hL] at hLn hrl HT ⊢
        have RL := Lib.hid (show Rd wr A' c' L by rw [← hL]; exact HR.out)
        obtain ⟨wd, hwd⟩ : ∃ wd, wdOf bs k = wd := ⟨_, rfl⟩
        have hwc := wdOf_cases bs k
        rw [hwd] at HT hwc
        have HW := Lib.hid hwd
        clear hL hwd HR
        go_wp2_with fail
        go_region_held3 (fun W' => W'.cell? ⟨b0, o0 + k, none⟩ = some (.slice f.A f.l.length f.c)) (go_keep)
          (first
            | (go_at_call 35; refine (wide_calls LA d bs k _ (HBL.out.below ?_)).mono ?_; (exact HB.out.drew); rintro e w6 ⟨rfl, rfl⟩; rw [HW.out])
            | (go_at_call 30; refine (lay_drew A' f.A c' f.c L.length L f.l wd wr RL.out R.out rfl hwc h5 (by omega)).mono ?_; rintro e w6 ⟨v6, rfl, o6, b6⟩; have m0 := stays_ b6 g1; have O6 := Lib.hid o6; have B6 := Lib.hid b6; clear o6 b6))
        obtain ⟨A6, c6, rfl, r6⟩ := O6.out.rd
        have R6 := Lib.hid r6
        have hlen6 : (L ++ pw wd f.l).length = L.length + wd + f.l.length := by rw [List.length_append, pw_length]; omega
        obtain ⟨n6, hn6⟩ : ∃ n6, (L ++ pw wd f.l).length = n6 := ⟨_, rfl⟩
        rw [hn6] at hlen6 ⊢
        have HN6 := Lib.hid hn6
        have BW6 := Lib.hid (below_then HB.out HB.out.size B6.out)
        clear r6 hn6
        go_wp2_with fail
        have hs1 : IntKind.i64.wrap ((L.length : Int) + (wd : Int)) = (L.length : Int) + wd := IntWalk.i64_in _ (by omega)
        have hs2 : IntKind.i64.wrap ((L.length : Int) + (wd : Int) + (f.l.length : Int)) = (L.length : Int) + wd + f.l.length := IntWalk.i64_in _ (by omega)
        have hs3 : ((n6 : Int) != (L.length : Int) + wd + f.l.length) = false := by rw [bne_eq_false_iff_eq]; omega
        have hs4 : ((n6 : Int) == (L.length : Int) + wd + f.l.length) = true := by rw [beq_iff_eq]; omega
        clear hlen6
        go_region_held3 (fun W' => W'.cell? ⟨b0, o0 + k, none⟩ = some (.slice f.A f.l.length f.c)) (go_keep)
          (first
            | (go_at_call 35; refine (wide_calls LA d bs k _ (HBL.out.below ?_)).mono ?_; (exact BW6.out.drew); rintro e w7 ⟨rfl, rfl⟩; rw [HW.out]))
        go_wp2_with fail
        refine ⟨⟨k + 1, A6, c6, by omega, by go_num, ?_, ?_, BW6.out.drew, Lib.hid (fun j hj hjk => ?_)⟩, by simp [intOf]; omega⟩
        · rw [HT.out, HN6.out]
        · rw [HT.out]; exact R6.out.below (Below.refl _ _).drew
        · by_cases hjk' : j < k
          · exact HS.out j hj hjk'
          · obtain rfl : j = k := by omega
            rw [HFk.out]; exact h5
      · go_wp2_with fail
        refine (works01_calls _).mono ?_
        rintro e w7 ⟨rfl, b7⟩
        have BW7 := Lib.hid (below_then HB.out HB.out.size b7)
        clear b7
        go_wp2
        go_ret
        exact ⟨rfl, BW7.out⟩
    · obtain rfl : k = N := by omega
      have ht : ps.take k = ps := by rw [← HN.out, List.take_length]
      have HR := Lib.hid (show Rd wr A' c' (pws bs 0 ps) by rw [ht] at HR; exact HR.out)
      rw [ht] at hrl ⊢
      have HLd := Lib.hid (show ∀ j, (pws bs j (ps.drop j)).length ≤ 259 * 40 from fun j => by
        have := pws_len bs j (ps.drop j) (fun i hi => by
          rw [List.getElem_drop]
          rw [List.length_drop] at hi
          exact HS.out (j + i) (by omega) (by have := HN.out; omega))
        rw [List.length_drop, HN.out] at this
        omega)
      have hLn : (pws bs 0 ps).length ≤ 259 * 40 := HLd.out 0
      obtain ⟨L, hL⟩ : ∃ L, pws bs 0 ps = L := ⟨_, rfl⟩
      rw [hL] at hLn hrl HR ⊢
      have HLL := Lib.hid hL
      clear hL ht
      go_wp2_with (at_builtin; refine wpList_appB _ rfl _ _ rfl wr.heap.size (.slice (some ⟨wr.heap.size, 0, none⟩) 0 0) [] rfl ?own A' _ _ L rfl rfl ?rd ?hb ?hbase ?_)
      case own => exact OwnB.new (Nat.le_refl _)
      case rd => exact HR.out.below (below_alloc _ _)
      case hb => simp; omega
      case hbase => simp
      intro v1 w1 a1 a2 a3 a4
      have O1 := Lib.hid a1
      have B1 := Lib.hid (below_grown (below_alloc wr _) (by simp) a2 (by simp [Value.ownBlock]))
      clear a1 a2 a3 a4
      go_wp2_with (at_builtin; refine wpList_appB _ rfl _ _ rfl wr.heap.size v1 L rfl O1.out B _ _ z rfl rfl ?rd ?hb ?hbase ?_)
      case rd => exact HZ.out.below (below_then HB.out HB.out.size B1.out)
      case hb => omega
      case hbase => exact B1.out.size
      intro v2 w2 a1 a2 a3 a4
      have O2 := Lib.hid a1
      have B2 := Lib.hid (below_grown B1.out B1.out.size a2 (fun k hk => (O1.out.lt k hk).1))
      clear a1 a2 a3 a4
      go_wp2_with (at_builtin; refine wpList_appB _ rfl _ _ rfl w2.heap.size (.slice (some ⟨w2.heap.size, 0, none⟩) 0 0) [] rfl ?own A' _ _ L rfl rfl ?rd ?hb ?hbase ?_)
      case own => exact OwnB.new (Nat.le_refl _)
      case rd => exact (HR.out.below B2.out).below (below_alloc _ _)
      case hb => simp; omega
      case hbase => simp
      intro v3 w3 a1 a2 a3 a4
      have hb3 := below_grown (below_alloc w2 _) (by simp) a2 (by simp [Value.ownBlock])
      obtain ⟨A2, c2', rfl, r2⟩ := O2.out.rd
      obtain ⟨A3, c3, rfl, r3⟩ := a1.rd
      have R2 := Lib.hid (r2.below hb3)
      have R3 := Lib.hid r3
      have B3 := Lib.hid (below_then (below_then HB.out HB.out.size B2.out) (by have := HB.out.size; have := B2.out.size; omega) hb3)
      clear a1 a2 a3 a4 hb3 r2 r3 O2 O1
      have hz1 : (L ++ z).length ≤ 259 * 40 + 1000 := by rw [List.length_append]; omega
      obtain ⟨M, hM⟩ : ∃ M, L ++ z = M := ⟨_, rfl⟩
      rw [hM] at R2 hz1 ⊢
      have HM := Lib.hid hM
      clear hM
      go_wp2_with fail
      go_loopw [11, 12, 13, 14, 15, 16, 17, 18, 19, 20, 21, 22] (fun rest cut i _ _ _ _ _ _ _ _ _ wq => ∃ (j : Nat) (A1 A2 : Option Addr) (c1 c2 : Nat), j ≤ k ∧ i = .int .i64 j ∧ rest = .slice A1 (pws bs j (ps.drop j) ++ z).length c1 ∧ Rd wq A1 c1 (pws bs j (ps.drop j) ++ z) ∧ cut = .slice A2 (pws bs j (ps.drop j)).length c2 ∧ Rd wq A2 c2 (pws bs j (ps.drop j)) ∧ Below w.heap.size w wq) (fun _ _ i _ _ _ _ _ _ _ _ _ _ => k - (intOf i).toNat)
      case atStart => exact ⟨0, A2, A3, c2', c3, by omega, rfl, by rw [List.drop_zero, HLL.out, HM.out], by rw [List.drop_zero, HLL.out, HM.out]; exact R2.out, by rw [List.drop_zero, HLL.out], by rw [List.drop_zero, HLL.out]; exact R3.out, B3.out⟩
      case round =>
        obtain ⟨j, A1, A5, c1, c5, hj, rfl, rfl, hr1, rfl, hr2, hbl⟩ := hrel
        have hdl := HLd.out j
        by_cases hjN : j < k
        · obtain ⟨b0, o0, rfl, g1, g2⟩ := (HF.out.below hbl).at_ j (by rw [HN.out]; exact hjN)
          obtain ⟨f, hf⟩ : ∃ f, ps[j]'(by rw [HN.out]; exact hjN) = f := ⟨_, rfl⟩
          rw [hf] at g1 g2
          have h5 : f.l.length ≤ 255 := by rw [← hf]; exact HS.out j (by rw [HN.out]; exact hjN) hjN
          have hdr := pws_drop bs ps j (by rw [HN.out]; exact hjN)
          rw [hf] at hdr
          have HT := Lib.hid hdr
          have R := Lib.hid g2
          have HRr := Lib.hid hr1
          have HRc := Lib.hid hr2
          have HBq := Lib.hid hbl
          obtain ⟨wd, hwd⟩ : ∃ wd, wdOf bs j = wd := ⟨_, rfl⟩
          have hwc := wdOf_cases bs j
          rw [hwd] at HT hwc
          have HW := Lib.hid hwd
          obtain ⟨T, hT⟩ : ∃ T, pws bs (j + 1) (ps.drop (j + 1)) = T := ⟨_, rfl⟩
          rw [hT] at HT
          have HTT := Lib.hid hT
          obtain ⟨L1, hL1⟩ : ∃ L1, pws bs j (ps.drop j) = L1 := ⟨_, rfl⟩
          rw [hL1] at HT HRr HRc hdl ⊢
          obtain ⟨M1, hM1⟩ : ∃ M1, L1 ++ z = M1 := ⟨_, rfl⟩
          have hMl : M1.length ≤ 259 * 40 + 1000 := by rw [← hM1, List.length_append]; omega
          have HM1 := Lib.hid (show M1 = pw wd f.l ++ (T ++ z) by rw [← hM1, HT.out, List.append_assoc])
          rw [hM1] at HRr ⊢
          have hjN' : (j : Int) < k := by omega
          clear hf hr1 hr2 g2 hdr hbl hwd hT hL1 hM1
          go_wp2_with fail
          refine (wide_calls LA d bs j _ (HBL.out.below HBq.out)).mono ?_
          rintro e w6 ⟨rfl, rfl⟩
          rw [HW.out]
          go_wp2_with fail
          refine (piece_pw A1 c1 M1.length wd f.l (T ++ z) M1 _ HRr.out HM1.out rfl hwc h5 (by omega)).mono ?_
          rintro e w6 ⟨v1, v2, rfl, o1, o2, b6⟩
          obtain ⟨Ap, cp, rfl, rp⟩ := o1.rd
          obtain ⟨Ar, cr, rfl, rr⟩ := o2.rd
          have RP := Lib.hid rp
          have RR := Lib.hid rr
          have B6 := Lib.hid (below_then HBq.out HBq.out.size b6)
          have RC6 := Lib.hid (HRc.out.below b6)
          have m0 := stays_ b6 g1
          obtain ⟨S, hS⟩ : ∃ S : ByteArray, (⟨f.l.toArray⟩ : ByteArray) = S := ⟨_, rfl⟩
          have s3 : ∀ n, (convert 23 9 (.slice Ap f.l.length cp)).run Try.prog (w6.drewN n) = .ok (.string S) (w6.drewN n) := fun n => by rw [← hS]; exact conv_bytes (rp.drewN n)
          have s4 : ∀ n, (convert 23 9 (.slice f.A f.l.length f.c)).run Try.prog (w6.drewN n) = .ok (.string S) (w6.drewN n) := fun n => by rw [← hS]; exact conv_bytes ((R.out.below b6).drewN n)
          clear o1 o2 b6 rp rr g1 hS
          go_wp2_with fail
          go_quiet (fail)
          have RRq := Lib.hid (RR.out.drewN nq)
          have RCq := Lib.hid (RC6.out.drewN nq)
          have B6q := Lib.hid (pw_drewN B6.out nq)
          clear s3 s4 m0
          revert RRq RCq B6q
          generalize w6.drewN nq = W
          intro RRq RCq B6q
          have hTl : (T ++ z).length = T.length + z.length := List.length_append
          have hL1 : L1.length = wd + f.l.length + T.length := by rw [HT.out, List.length_append, pw_length]
          have HTl := Lib.hid hTl
          have HL1 := Lib.hid hL1
          have hL1p : 1 ≤ L1.length := by omega
          clear hTl hL1
          by_cases hlast : j + 1 = k
          · have hT0 : T = [] := by rw [← HTT.out, hlast, ← HN.out, List.drop_length]; rfl
            have e1 : ((j : Int) == (k : Int) - 1) = true := by rw [beq_iff_eq]; omega
            obtain ⟨m5, hm5⟩ : ∃ m5, L1.length - 1 = m5 := ⟨_, rfl⟩
            have hsum : IntKind.i64.wrap ((L1.length : Int) - 1) = (L1.length : Int) - 1 := IntWalk.i64_in _ (by omega)
            have hsl := slice_to A5 L1.length c5 m5 ((L1.length : Int) - 1) (by omega) (by have := RCq.out.len; omega)
            have HC := Lib.hid (show L1.take m5 = (pw wd f.l).take (wd + f.l.length - 1) by
              have := HL1.out
              rw [HT.out, hT0, List.append_nil, ← hm5]
              congr 1
              rw [HT.out, hT0, List.append_nil, pw_length])
            have HCl := Lib.hid (show m5 = (L1.take m5).length by rw [List.length_take]; omega)
            have HRC5 := Lib.hid (show Rd W A5 c5 (L1.take m5) from RCq.out.take0 (by omega))
            clear hT0 hm5 hlast
            go_wp2_with fail
            go_region_held3 (fun _ => True) (trivial)
              (first
                | (go_at_call 35; refine (wide_calls LA d bs j _ (HBL.out.below ?_)).mono ?_; (exact B6q.out.drew); rintro e w7 ⟨rfl, rfl⟩; rw [HW.out])
                | (go_at_call 33; refine (piece_cut A5 c5 m5 wd f.l (L1.take m5) _ (HRC5.out.below (Below.refl _ _).drew) HC.out HCl.out hwc h5).mono ?_; rintro e w7 ⟨rfl, rfl⟩))
            go_wp2_with fail
            refine (wide_calls LA d bs j _ (HBL.out.below B6q.out.drew)).mono ?_
            rintro e w7 ⟨rfl, rfl⟩
            rw [HW.out]
            go_wp2_with fail
            refine (piece_pw A5 c5 L1.length wd f.l T L1 _ (RCq.out.below (Below.refl _ _).drew) HT.out rfl hwc h5 (by omega)).mono ?_
            rintro e w8 ⟨v3, v4, rfl, o3, o4, b8⟩
            obtain ⟨Ap2, cp2, rfl, rp2⟩ := o3.rd
            obtain ⟨Ac, cc, rfl, rc⟩ := o4.rd
            have RC8 := Lib.hid rc
            have RR8 := Lib.hid (RRq.out.below (below_of_drew b8))
            have B8 := Lib.hid (below_then B6q.out B6q.out.size (below_of_drew b8))
            clear o3 o4 b8 rp2 rc
            go_wp2_with fail
            refine ⟨⟨j + 1, Ar, Ac, cr, cc, by omega, by go_num, ?_, ?_, ?_, ?_, B8.out⟩, by simp [intOf]; omega⟩
            · rw [HTT.out, HTl.out]
            · rw [HTT.out]; exact RR8.out
            · rw [HTT.out]
            · rw [HTT.out]; exact RC8.out
          · have e1 : ((j : Int) == (k : Int) - 1) = false := by rw [beq_eq_false_iff_ne]; omega
            clear hlast
            go_wp2_with fail
            refine (wide_calls LA d bs j _ (HBL.out.below B6q.out)).mono ?_
            rintro e w7 ⟨rfl, rfl⟩
            rw [HW.out]
            go_wp2_with fail
            refine (piece_pw A5 c5 L1.length wd f.l T L1 _ RCq.out HT.out rfl hwc h5 (by omega)).mono ?_
            rintro e w8 ⟨v3, v4, rfl, o3, o4, b8⟩
            obtain ⟨Ap2, cp2, rfl, rp2⟩ := o3.rd
            obtain ⟨Ac, cc, rfl, rc⟩ := o4.rd
            have RC8 := Lib.hid rc
            have RR8 := Lib.hid (RRq.out.below b8)
            have B8 := Lib.hid (below_then B6q.out B6q.out.size b8)
            clear o3 o4 b8 rp2 rc
            go_wp2_with fail
            refine ⟨⟨j + 1, Ar, Ac, cr, cc, by omega, by go_num, ?_, ?_, ?_, ?_, B8.out⟩, by simp [intOf]; omega⟩
            · rw [HTT.out, HTl.out]
            · rw [HTT.out]; exact RR8.out
            · rw [HTT.out]
            · rw [HTT.out]; exact RC8.out
        · obtain rfl : j = k := by omega
          have h0 : pws bs j (ps.drop j) ++ z = z := by rw [← HN.out, List.drop_length]; rfl
          rw [h0] at hr1 ⊢
          have HBq := Lib.hid hbl
          have s1 : (convert 23 9 (.slice A1 z.length c1)).run Try.prog wr = .ok (.string ⟨z.toArray⟩) wr := conv_bytes hr1
          have s2 : (convert 23 9 (.slice B z.length c2)).run Try.prog wr = .ok (.string ⟨z.toArray⟩) wr := conv_bytes (HZ.out.below hbl)
          obtain ⟨S, hS⟩ : ∃ S : ByteArray, (⟨z.toArray⟩ : ByteArray) = S := ⟨_, rfl⟩
          rw [hS] at s1 s2
          clear hr1 hr2 hbl h0 hS
          go_wp2_with fail
          refine (works01_calls _).mono ?_
          rintro e w7 ⟨rfl, b7⟩
          have BW7 := Lib.hid (below_then HBq.out HBq.out.size b7)
          clear b7
          go_wp2
          go_ret
          exact ⟨rfl, BW7.out⟩

theorem orow_all (A LA B : Option Addr) (c d c2 : Nat) (ps : List PieceAt) (bs : List Bool) (z : List UInt8) (w : World) (h : Rws w A c ps) (hB : Bls w LA d bs) (hz : Rd w B c2 z) :
    Calls Try.prog 12 #[.slice A ps.length c, .slice LA bs.length d, .slice B z.length c2] w fun e w' => e = .returned (.bool true) ∧ Below w.heap.size w w' := by
  by_cases hb : 40 < ps.length ∨ 1000 < z.length
  · exact orow_big A LA B c d c2 ps.length bs.length z.length w hb
  · exact orow_calls A LA B c d c2 ps bs z w h hB hz (by omega) (by omega)
end Go.Proofs.Ytkihafkiinhbkaa

import Derived.Test.YtmeljnohkhkfmaaTo
set_option linter.unusedVariables false
set_option linter.unusedSimpArgs false
namespace Go.Proofs.Ytmeljnohkhkfmaa
open Go.RowKit

theorem Try.info_fr : (Try.prog.info? 39).map (fun i => (i.zero, i.size, i.bytes)) = some (some (.agg #[.int .u16 0, .slice none 0 0]), 2, 32) := by kernel_rfl
theorem next_three {M ph : Nat} {l : List UInt8} (h : (nextI M l ph).kind = 3) : nextI M l ph = ⟨3, 0, [], [], 2⟩ := by
  unfold nextI at h ⊢
  repeat' split
  all_goals first | rfl | (simp_all)
theorem next_le {M ph : Nat} {l : List UInt8} : (nextI M l ph).kind ≤ 3 := by
  unfold nextI
  repeat' split
  all_goals simp
theorem next_zero {M ph : Nat} {l : List UInt8} (h : (nextI M l ph).kind = 0) : nextI M l ph = ⟨0, 0, [], l, ph⟩ := by
  unfold nextI at h ⊢
  by_cases h0 : ph = 0
  · subst h0
    simp only [if_true] at h ⊢
    repeat' split
    all_goals first | rfl | (simp_all)
  · by_cases h1 : ph = 1
    · subst h1
      simp only [if_neg h0, if_true] at h ⊢
      repeat' split
      all_goals first | rfl | (simp_all)
    · simp [if_neg h0, if_neg h1] at h
theorem rd_frame {w : World} {ch n c : Nat} {A : Option Addr} : RdC 2 (w.alloc (.cells #[.int .u16 ch, .slice A n c] 39)) (some ⟨w.heap.size, 0, none⟩) 1 1 [.int .u16 ch, .slice A n c] := by
  refine ⟨rfl, by decide, by decide, (fun hh => by cases hh), by simp [Value.oneCell'], fun ad ha j u hj => ?_⟩
  cases ha
  rw [plain_add, Nat.zero_add]
  exact cell_of_heap (l := [.int .u16 ch, .slice A n c]) (heap_alloc_new w _) j u hj
theorem Kz.rd {Z : List Nat} {w0 w w' : World} {A : Option Addr} {c : Nat} {l : List UInt8} (h : Kz Z w0 w w') (hr : Rd w A c l) (hA : ∀ ad, A = some ad → ad.block ∈ Z) : Rd w' A c l := by
  obtain ⟨h1, h2, h3, h4, h5, h6⟩ := hr
  refine ⟨h1, h2, h3, h4, h5, fun ad ha j u hj => h.cell (h6 ad ha j u hj) (.inl ?_)⟩
  have := hA ad ha
  cases ad
  rename_i b o s
  unfold Addr.add
  split <;> exact this
def kindsOf (D : List Ev) : List UInt8 := D.map fun e => UInt8.ofNat e.kind
theorem kindsOf_snoc (D : List Ev) (e : Ev) : kindsOf (D ++ [e]) = kindsOf D ++ [UInt8.ofNat e.kind] := by simp [kindsOf]
theorem kindsOf_length (D : List Ev) : (kindsOf D).length = D.length := by simp [kindsOf]

def ToldP (w0 w1 : World) (a M : Nat) (b : List UInt8) (en : Ending) (w' : World) : Prop :=
  ∃ kv fv E Z l ph t, en = .returned (.tuple #[kv, fv, .int .i64 (t : Nat)]) ∧ Tells M b 0 E ∧ ToS w0 w1 w' a M l ph kv (kindsOf E) fv E Z
set_option maxRecDepth 100000 in
set_option maxHeartbeats 8000000 in
theorem told_calls {w0 w1 : World} {a M : Nat} (hI : In w1 a [a] M [] 0) (h0 : w0.heap.size ≤ a) (ho : Below w0.heap.size w0 w1) (B : Option Addr) (d n : Nat) (b : List UInt8) (hb : Rd w0 B d b) (hn : b.length = n) (hn8 : n ≤ 8192) (P : Option Addr) (e np : Nat) (ns : List Nat) (hp : Pcs w0 P e ns) (hnp : ns.length = np) :
    Calls Try.prog 23 #[.pointer (some ⟨a, 0, none⟩), .slice B n d, .slice P np e] w1 (ToldP w0 w1 a M b) := by
  have HB := Lib.hid hb
  have HN := Lib.hid hn
  have HP := Lib.hid hp
  have HNP := Lib.hid hnp
  have hnd := hb.len
  rw [hn] at hnd
  obtain ⟨hnd1, hnd2⟩ := hnd
  have hpe := hp.le
  have hpm := hp.max
  rw [hnp] at hpe
  have S0 := Lib.hid (ToS.start hI h0 ho)
  have hM : 512 ≤ M ∧ M ≤ 4096 := ⟨hI.ok.lo, hI.ok.hi⟩
  obtain ⟨hM1, hM2⟩ := hM
  clear hb hn hp hnp hI h0 ho
  go_enter Try.func23, Try.ntmps23
  go_wp2_with fail
  go_loopw [9, 10, 11, 12, 13, 14, 15, 16, 17] (fun kv fv ut ui _ _ _ _ _ wr => ∃ (p q ph : Nat) (l : List UInt8) (D : List Ev) (Z : List Nat), p ≤ n ∧ q ≤ p ∧ ut = .int .i64 p ∧ ui = .int .i64 q ∧ ToS w0 w1 wr a M l ph kv (kindsOf D) fv D Z ∧ Hid (SoFar M b D l ph (b.drop p)) ∧ Hid ((nextI M l ph).kind = 0) ∧ Hid (D.length + l.length ≤ p) ∧ ph ≤ 1) (fun _ _ ut _ _ _ _ _ _ _ => n - (intOf ut).toNat)
  case atStart => exact ⟨0, 0, 0, [], [], [], by omega, by omega, rfl, rfl, S0.out, Lib.hid (SoFar.start M b), Lib.hid rfl, Lib.hid (by simp), by omega⟩
  case round =>
    obtain ⟨p, q, ph, l, D, Z, hpn, hqp, rfl, rfl, hs, HSF, HK0, HDL, hph⟩ := hrel
    have S := Lib.hid hs
    clear hs S0
    by_cases hpn' : p < n
    · have hp1 : (p : Int) < n := by omega
      obtain ⟨s0, hs0⟩ : ∃ s0, n - p = s0 := ⟨_, rfl⟩
      have hsub : (n : Int) - (p : Int) = (s0 : Int) := by omega
      have hs01 : 1 ≤ s0 := by omega
      have hw1 : IntKind.i64.wrap ((n : Int) - (p : Int)) = (s0 : Int) := by rw [IntKind.wrap_i64]; omega
      have HQ : np ≤ q ∨ (∃ x m, q < np ∧ ns[q]? = some x ∧ x % 700 = m ∧ 1 + m < s0) ∨ ∃ x m, q < np ∧ ns[q]? = some x ∧ x % 700 = m ∧ ¬ 1 + m < s0 := by
        by_cases h : np ≤ q
        · exact .inl h
        · have hq : q < ns.length := by rw [HNP.out]; omega
          by_cases h2 : 1 + ns[q] % 700 < s0
          · exact .inr (.inl ⟨_, _, by omega, List.getElem?_eq_getElem hq, rfl, h2⟩)
          · exact .inr (.inr ⟨_, _, by omega, List.getElem?_eq_getElem hq, rfl, h2⟩)
      rcases HQ with hq | ⟨x, m, hq, hx, hm, hlt⟩ | ⟨x, m, hq, hx, hm, hge⟩
      all_goals
        first
          | (have hbad : np ≤ q := hq
             have hq1 : ¬ (q : Int) < np := by omega
             go_upto_region 10 with fail
             obtain ⟨s, hs, hss, hs2⟩ : ∃ s, s = s0 ∧ 1 ≤ s ∧ s ≤ s0 := ⟨s0, rfl, hs01, Nat.le_refl _⟩
             rw [← hs]
             clear hs hq1 hbad)
          | (have hq1 : (q : Int) < np := by omega
             obtain ⟨pb, po, rfl, y0, hx2⟩ := (HP.out.cell (Tch.of_below [] S.out.below0) (by simp)).at_ q (by rw [HNP.out]; exact hq)
             obtain ⟨hx3, hx4⟩ := List.getElem?_eq_some_iff.1 hx
             rw [hx4] at y0 hx2
             have hmi : (x : Int) % 700 = (m : Int) := by omega
             have hm7 : m < 700 := by omega
             have hlt' : 1 + (m : Int) < s0 := by omega
             clear hx hx3 hx4
             go_upto_region 10 with fail
             obtain ⟨s, hs, hss, hs2⟩ : ∃ s, s = 1 + m ∧ 1 ≤ s ∧ s ≤ s0 := ⟨1 + m, rfl, by omega, by omega⟩
             rw [show 1 + (m : Int) = (s : Int) by omega]
             clear hs hmi hlt' hlt y0 hx2 hq1 hm hm7)
          | (have hq1 : (q : Int) < np := by omega
             obtain ⟨pb, po, rfl, y0, hx2⟩ := (HP.out.cell (Tch.of_below [] S.out.below0) (by simp)).at_ q (by rw [HNP.out]; exact hq)
             obtain ⟨hx3, hx4⟩ := List.getElem?_eq_some_iff.1 hx
             rw [hx4] at y0 hx2
             have hmi : (x : Int) % 700 = (m : Int) := by omega
             have hm7 : m < 700 := by omega
             have hge' : ¬ 1 + (m : Int) < s0 := by omega
             clear hx hx3 hx4
             go_upto_region 10 with fail
             obtain ⟨s, hs, hss, hs2⟩ : ∃ s, s = s0 ∧ 1 ≤ s ∧ s ≤ s0 := ⟨s0, rfl, hs01, Nat.le_refl _⟩
             rw [← hs]
             clear hs hmi hge' hge y0 hx2 hq1 hm hm7)
        have hps : p + s ≤ n := by omega
        have hsl := fun W => slice_both' B n d p (p + s) .i64 .i64 p ((p : Int) + s) rfl (by omega) (by omega) (by omega) W
        rw [show p + s - p = s by omega] at hsl
        have HPL := Lib.hid (show ((b.take (p + s)).drop p).length = s by rw [List.length_drop, List.length_take, HN.out]; omega)
        have HPE := Lib.hid (show ∀ T, T ≤ s → ((b.take (p + s)).drop p).take T = (b.drop p).take T from fun T hT => by
          rw [List.drop_take, List.take_take]
          congr 1
          omega)
        have RP := Lib.hid ((HB.out.below S.out.below0).cut p (p + s) (by omega) (by rw [HN.out]; exact hps))
        obtain ⟨C, hC⟩ : ∃ C, cutA B d p 1 = C := ⟨_, rfl⟩
        rw [hC] at hsl RP
        obtain ⟨pl, hpl⟩ : ∃ pl, (b.take (p + s)).drop p = pl := ⟨_, rfl⟩
        rw [hpl] at HPL HPE RP
        obtain ⟨T, hT⟩ : ∃ T, tookI M l ph pl = T := ⟨_, rfl⟩
        have HT := Lib.hid hT
        have hT2 : 1 ≤ T ∧ T ≤ s := by
          have hn := (next_ok (S.out.ex.elim fun _ h => h.1.ok) rfl).2
          have hk := HK0.out
          have hll : l.length < M := by
            rcases hn with ⟨h, -⟩ | ⟨-, -, ⟨-, -, h⟩ | ⟨h, -⟩ | ⟨h, -⟩⟩
            · omega
            · exact h
            · omega
            · omega
          rw [← hT, tookI, roomI, if_neg (by omega), HPL.out]
          omega
        obtain ⟨hT1, hT2⟩ := hT2
        clear hC hpl hT hsub hw1 hs0
        go_wp2_with fail
        refine (tos_put S.out RP.out HPL.out HT.out rfl).mono ?_
        rintro e2 w3 ⟨rfl, s3⟩
        rw [HPE.out T hT2] at s3
        have S3 := Lib.hid s3
        have SF3 := Lib.hid (HSF.out.put T)
        rw [List.drop_drop] at SF3
        have DL3 := Lib.hid (show D.length + (l ++ (b.drop p).take T).length ≤ p + T by
          have := HDL.out
          rw [List.length_append, List.length_take]
          omega)
        obtain ⟨l', hl'⟩ : ∃ l', l ++ (b.drop p).take T = l' := ⟨_, rfl⟩
        rw [hl'] at S3 SF3 DL3
        clear s3 hl' S HSF HK0 HDL RP HPL HPE HT hsl
        go_wp2_with fail
        have hTz : ((T : Int) == 0) = false := by rw [beq_eq_false_iff_ne]; omega
        have hTz2 : ¬ (T : Int) = 0 := by omega
        have hpT : p + T ≤ n := by omega
        go_loopg [9, 10, 15, 16, 17] l'.length (fun gk kv fv bd _ _ wi => ∃ (ph : Nat) (l : List UInt8) (D : List Ev) (Z : List Nat), gk = l.length ∧ bd = .bool false ∧ ph ≤ 1 ∧ ToS w0 w1 wi a M l ph kv (kindsOf D) fv D Z ∧ Hid (SoFar M b D l ph (b.drop (p + T))) ∧ Hid (D.length + l.length ≤ p + T))
        case atStart => exact ⟨ph, l', D, Z, rfl, rfl, hph, S3.out, SF3, DL3⟩
        case round =>
          obtain ⟨ph3, l3, D3, Z3, rfl, rfl, hph3, hs3, HSF3, HDL3⟩ := hrel
          have S4 := Lib.hid hs3
          have HOK := Lib.hid (hs3.ex.elim fun _ h => h.1.ok)
          clear hs3 S3 SF3 DL3
          obtain ⟨⟨kd, ch, bd, l7, ph7⟩, hr7⟩ : ∃ r, nextI M l3 ph3 = r := ⟨_, rfl⟩
          have HR7 := Lib.hid hr7
          have HK := Lib.hid (next_ok HOK.out hr7)
          have hk3 : kd ≤ 3 := by have := next_le (M := M) (ph := ph3) (l := l3); rw [hr7] at this; exact this
          simp only at HK
          clear hr7
          have HC : kd = 0 ∨ kd ≠ 0 := by omega
          rcases HC with hk0 | hk0
          · subst hk0
            go_wp2_with fail
            refine (tos_next S4.out HR7.out).mono ?_
            rintro e5 w5 ⟨A5, c5, rfl, r5, Z5, s5, -⟩
            have S5 := Lib.hid s5
            clear r5 s5 S4
            have HZ := next_zero (M := M) (ph := ph3) (l := l3) (by rw [HR7.out])
            rw [HR7.out] at HZ
            injection HZ with z1 z2 z3 z4 z5
            subst z2 z3 z4 z5
            go_wp2_with fail
            exact ⟨⟨p + T, q + 1, _, _, D3, Z5, hpT, by omega, by go_num, by go_num, S5.out.below (below_alloc w5 _), HSF3, Lib.hid (by rw [HR7.out]), HDL3, hph3⟩, by simp [intOf]; omega⟩
          · have e0 : ((kd : Int) == 0) = false := by rw [beq_eq_false_iff_ne]; omega
            have e00 : ¬ kd = 0 := hk0
            have e3 : decide ((3 : Int) < kd) = false := decide_eq_false (by omega)
            have e4 : decide (3 < kd) = false := decide_eq_false (by omega)
            have hkd : ((kd : Nat) : Int) = ((UInt8.ofNat kd).toNat : Int) := by simp; omega
            have HKD := Lib.hid hkd
            clear hkd hk0
            go_wp2_with fail
            refine (tos_next S4.out HR7.out).mono ?_
            rintro e5 w5 ⟨A5, c5, rfl, r5, Z5, s5, hA5⟩
            obtain ⟨nd, hnd⟩ : ∃ nd, bd.length = nd := ⟨_, rfl⟩
            have HND := Lib.hid hnd
            rw [hnd]
            go_upto_region 14 with fail
            obtain ⟨X, hX⟩ : ∃ X, w5.heap.size = X := ⟨_, rfl⟩
            refine forget (fun W => ToS w0 w1 W a M l7 ph7 u9 (kindsOf D3) u10 D3 (X :: Z5) ∧ Rd W A5 c5 bd ∧ FrB W X ch (.slice A5 nd c5)) ⟨by rw [← hX]; exact s5.alloc _, r5.below (below_alloc w5 _), by rw [← hX]; exact FrB.new w5 ch (.slice A5 nd c5)⟩ ?_
            rw [hX]
            have HA5 := Lib.hid (fun ad ha => List.mem_cons_of_mem X (hA5 ad ha))
            rintro W ⟨s6, r6, x6⟩
            have S6 := Lib.hid s6
            have R6 := Lib.hid r6
            have X6 := Lib.hid x6
            have hzX : X < W.heap.size := heap_lt x6
            have HSM := Lib.hid s6.t.size
            clear r5 s5 S4 hA5 hnd hX s6 r6 x6
            have hbd : (kindsOf D3).length + [UInt8.ofNat kd].length ≤ 140737488355328 := by rw [kindsOf_length]; have := HDL3.out; simp; omega
            have HBD := Lib.hid hbd
            clear hbd
            go_wp2_with (at_builtin; refine wpList_appB _ rfl _ _ rfl w1.heap.size u9 (kindsOf D3) rfl (S6.out.below (below_alloc _ (.cells #[.int .u8 kd] 5))).kinds (some ⟨W.heap.size, 0, none⟩) 1 1 [UInt8.ofNat kd] rfl rfl (rd_one HKD.out) HBD.out ?hbase ?_)
            case hbase => have := HSM.out; simp; omega
            intro kv7 w7 ow7 gw7 x7 hv7
            clear x7
            obtain ⟨s7, z7⟩ := (S6.out.below (below_alloc W (.cells #[.int .u8 kd] 5))).kapp ow7 gw7 (by simpa using hv7)
            rw [← kindsOf_snoc D3 ⟨kd, ch, bd⟩] at s7
            have S7 := Lib.hid (s7.below (below_alloc w7 (.cells #[.int .u16 ch, .slice A5 nd c5] 39)))
            have x7 := z7.frB (X6.out.tch (Tch.of_below [] (below_alloc W (.cells #[.int .u8 kd] 5))) (by simp)) (by simp)
            obtain ⟨q0, q1, q2⟩ := x7.cells
            have hz7 : X < w7.heap.size := heap_lt x7
            have R7 := Lib.hid ((z7.rd (R6.out.below (below_alloc W (.cells #[.int .u8 kd] 5))) (fun ad ha => by simpa using HA5.out ad ha)).below (below_alloc w7 (.cells #[.int .u16 ch, .slice A5 nd c5] 39)))
            have HSZ := Lib.hid s7.t.size
            obtain ⟨cs, hcs1, hcs2⟩ := S7.out.frames.own
            have HC1 := Lib.hid hcs1
            have HC2 := Lib.hid hcs2
            have HBF := Lib.hid (show (D3.length + 1) * 32 ≤ 140737488355328 ∧ D3.length + 1 ≤ 9223372036854775807 by have := HDL3.out; omega)
            obtain ⟨i0, hi0⟩ : ∃ i0, Hid (Try.prog.info? 39 = some i0 ∧ i0.zero = some (.agg #[.int .u16 0, .slice none 0 0]) ∧ i0.size = 2 ∧ i0.bytes = 32) := by
              obtain ⟨i0, h1, h2, h3, h4⟩ := info_parts Try.info_fr
              exact ⟨i0, Lib.hid ⟨h1, h2, h3, h4⟩⟩
            clear S6 R6 X6 hzX HSM HBD ow7 gw7 hv7 s7 z7 x7 hcs1 hcs2
            go_wp2_with (at_builtin; refine wpList_appC _ rfl _ _ _ rfl w1.heap.size i0 (.agg #[.int .u16 0, .slice none 0 0]) 32 Try.underlying48 hi0.out.1 hi0.out.2.1 hi0.out.2.2.1 hi0.out.2.2.2 rfl (by decide) (fun _ _ => trivial) u10 D3.length cs rfl HC1.out (some ⟨w7.heap.size, 0, none⟩) 1 1 [.int .u16 ch, .slice A5 nd c5] rfl rd_frame HBF.out.1 HBF.out.2 ?hbase ?_)
            case hbase => have := HSZ.out; simp; omega
            intro fv8 w8 ow8 gw8 x8 hv8
            rw [← HND.out] at ow8
            have S8 := Lib.hid (S7.out.fapp (e := ⟨kd, ch, bd⟩) HC2.out HC1.out.1 ow8 R7.out (fun ad ha => by simpa using HA5.out ad ha) gw8 (by simpa using hv8))
            clear x8 ow8 gw8 hv8 S7 R7 HC1 HC2 q0 q1 q2 hz7
            by_cases hk3' : kd = 3
            · subst hk3'
              have HZ := next_three (M := M) (ph := ph3) (l := l3) (by rw [HR7.out])
              rw [HR7.out] at HZ
              injection HZ with z1 z2 z3 z4 z5
              subst z2 z3 z4 z5
              go_wp2_with fail
              go_ret3
              exact ⟨_, _, _, _, _, _, p + T, by first | rfl | simp, HSF3.out.bad (by rw [HR7.out]), S8.out⟩
            · have e5 : ((kd : Int) == 3) = false := by rw [beq_eq_false_iff_ne]; omega
              have e6 : ¬ kd = 3 := hk3'
              have HLL := Lib.hid (show ph7 ≤ 1 ∧ l7.length < l3.length by
                have h1 := HK.out.1.ph2
                rcases HK.out.2 with ⟨h, -⟩ | ⟨-, h2, ⟨h, -⟩ | ⟨-, h⟩ | ⟨-, h⟩⟩
                · omega
                · omega
                · exact ⟨by omega, h⟩
                · exact ⟨by omega, h⟩)
              have SF8 := Lib.hid (show SoFar M b (D3 ++ [⟨kd, ch, bd⟩]) l7 ph7 (b.drop (p + T)) by
                have := HSF3.out.one (by rw [HR7.out]; simp only; omega)
                rw [HR7.out] at this
                exact this)
              go_wp2_with fail
              go_roundg l7.length
              case measure => exact HLL.out.2
              case rel => exact ⟨ph7, l7, _, X :: Z5, rfl, rfl, HLL.out.1, S8.out, SF8, Lib.hid (by have := HLL.out.2; have := HDL3.out; simp; omega)⟩
    · obtain rfl : p = n := by omega
      go_wp2_with fail
      go_ret3
      exact ⟨_, _, D, Z, l, ph, p, rfl, (by have := HSF.out; rw [List.drop_of_length_le (by rw [HN.out]; exact Nat.le_refl _)] at this; exact this.done HK0.out), S.out⟩
end Go.Proofs.Ytmeljnohkhkfmaa

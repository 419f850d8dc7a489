import Derived.Test.YtmeljnohkhkfmaaToWalk
set_option linter.unusedVariables false
set_option linter.unusedSimpArgs false
namespace Go.Proofs.Ytmeljnohkhkfmaa
open Go.RowKit

/-- A slice value reads as frames. -/
structure FrR (w : World) (A : Option Addr) (c : Nat) (D : List Ev) : Prop where
  le : D.length ≤ c
  max : c ≤ 9223372036854775807
  at_ : ∀ (i : Nat) (hi : i < D.length), ∃ g o A' c', A = some ⟨g, o, none⟩ ∧ w.cell? ⟨g, o + i * 2, none⟩ = some (.int .u16 (D[i]).ch) ∧ w.cell? ⟨g, o + i * 2 + 1, none⟩ = some (.slice A' (D[i]).body.length c') ∧ Rd w A' c' (D[i]).body
theorem FrR.below {w w' : World} {A : Option Addr} {c : Nat} {D : List Ev} (h : FrR w A c D) (hb : Below w.heap.size w w') : FrR w' A c D :=
  ⟨h.le, h.max, fun i hi => by
    obtain ⟨g, o, A', c', h1, h2, h3, h4⟩ := h.at_ i hi
    exact ⟨g, o, A', c', h1, stays_ hb h2, stays_ hb h3, h4.below hb⟩⟩
theorem FrO.reads {w : World} {base : Nat} {v : Value} {Z : List Nat} {D : List Ev} (h : FrO w base v Z D) : ∃ A c, v = .slice A D.length c ∧ FrR w A c D := by
  obtain ⟨cs, h1, h2⟩ := h
  obtain ⟨A, c, rfl, hr⟩ := h1.rd
  refine ⟨A, c, rfl, ⟨hr.2.1, hr.2.2.1, fun i hi => ?_⟩⟩
  obtain ⟨A', c', e1, e2, e3, -⟩ := h2 i hi
  rcases h1.2.2 with ⟨e, h0⟩ | ⟨g, cap, sp, e, -⟩
  · omega
  · cases e
    obtain ⟨ad, q1, q2⟩ := hr.cell _ _ e1
    cases q1
    obtain ⟨ad, q1, q3⟩ := hr.cell _ _ e2
    cases q1
    rw [plain_add] at q2 q3
    exact ⟨g, 0, A', c', rfl, q2, by rw [Nat.add_assoc]; exact q3, e3⟩
theorem next_kind1 {M ph : Nat} {l : List UInt8} (h : (nextI M l ph).kind = 1) : ph = 0 ∧ 8 ≤ l.length ∧ l.take 8 = stB ∧ nextI M l ph = ⟨1, 0, [], l.drop 8, 1⟩ := by
  unfold nextI at h ⊢
  by_cases h0 : ph = 0
  · simp only [if_pos h0] at h ⊢
    by_cases h1 : l.take (min l.length 8) = stB.take (min l.length 8)
    · simp only [if_pos h1] at h ⊢
      by_cases h2 : l.length < 8
      · rw [if_pos h2] at h; simp at h
      · rw [show min l.length 8 = 8 by omega] at h1
        exact ⟨h0, by omega, h1, by rw [if_neg h2]⟩
    · simp only [if_neg h1] at h; simp at h
  · simp only [if_neg h0] at h
    repeat' split at h
    all_goals simp at h
theorem next_kind2 {M ph : Nat} {l : List UInt8} (h : (nextI M l ph).kind = 2) : ph = 1 ∧ (fr l M).err = 0 ∧ (fr l M).n ≤ l.length ∧ 8 ≤ (fr l M).n ∧ nextI M l ph = ⟨2, (fr l M).ch, (fr l M).body, l.drop (fr l M).n, 1⟩ := by
  unfold nextI at h ⊢
  by_cases h0 : ph = 0
  · simp only [if_pos h0] at h
    repeat' split at h
    all_goals simp at h
  · by_cases h1 : ph = 1
    · simp only [if_neg h0, if_pos h1] at h ⊢
      rcases fr_cases l M with e | e | ⟨e, g1, g2⟩
      · rw [e] at h; simp at h
      · rw [e] at h; simp at h
      · exact ⟨h1, e, g1, g2, by rw [e, if_neg (by decide), if_pos rfl]⟩
    · simp only [if_neg h0, if_neg h1] at h; simp at h
theorem eq_n {A B : Option Addr} {c d n k : Nat} {l m : List UInt8} {w : World} (h : Rd w A c l) (h2 : Rd w B d m) (hn : l.length = n) (hk : m.length = k) {b : Bool} (hb : decide (l = m) = b) :
    Calls Try.prog 25 #[.slice A n c, .slice B k d] w fun e w' => e = .returned (.bool b) ∧ w = w' := by
  subst hn hk hb
  exact eq_calls A B c d l m w h h2
theorem read_n {A : Option Addr} {c n most : Nat} {l : List UInt8} {w : World} (h : Rd w A c l) (hm : most ≤ 4294967295) (hn : l.length = n) {r : Fr} (hr : fr l most = r) :
    Calls Try.prog 26 #[.slice A n c, .int .u32 most] w fun e w' => ∃ v, e = frRet r v ∧ OwnB w' w.heap.size v r.body ∧ Below w.heap.size w w' := by
  subst hn hr
  exact read_calls A c l most w h hm
/-- What the next of all that is told can be. -/
theorem tells_cases {M ph : Nat} {l : List UInt8} {e : Ev} {E : List Ev} (h : Tells M l ph (e :: E)) :
    (e = ⟨3, 0, []⟩ ∧ E = []) ∨ (e = ⟨1, 0, []⟩ ∧ ph = 0 ∧ 8 ≤ l.length ∧ l.take 8 = stB ∧ Tells M (l.drop 8) 1 E) ∨
    (e = ⟨2, (fr l M).ch, (fr l M).body⟩ ∧ ph = 1 ∧ (fr l M).err = 0 ∧ (fr l M).n ≤ l.length ∧ 8 ≤ (fr l M).n ∧ Tells M (l.drop (fr l M).n) 1 E) := by
  cases h with
  | bad _ _ h => exact .inl ⟨rfl, rfl⟩
  | more _ _ _ h t =>
    rcases h with h | h
    · obtain ⟨h1, h2, h3, h4⟩ := next_kind1 h
      rw [h4] at t ⊢
      exact .inr (.inl ⟨rfl, h1, h2, h3, t⟩)
    · obtain ⟨h1, h2, h3, h4, h5⟩ := next_kind2 h
      rw [h5] at t ⊢
      exact .inr (.inr ⟨rfl, h1, h2, h3, h4, t⟩)

set_option maxRecDepth 100000 in
set_option maxHeartbeats 800000 in
theorem ipieces_big (z : Nat) (B : Option Addr) (n d : Nat) (P : Option Addr) (np e : Nat) (P2 : Option Addr) (np2 e2 : Nat) (w : World) (hb : 8192 < n) :
    Calls Try.prog 4 #[.int .u16 z, .slice B n d, .slice P np e, .slice P2 np2 e2] w fun e w' => e = .returned (.bool true) ∧ Below w.heap.size w w' := by
  go_enter Try.func4, Try.ntmps4
  go_wp2_with fail
  refine (works_calls _).mono ?_
  rintro e w1 ⟨rfl, h1⟩
  have H1 := Lib.hid h1
  clear h1
  go_wp2_with fail
  go_ret
  exact ⟨rfl, H1.out⟩
theorem OwnB.rd_n8 {w : World} {base g : Nat} (h : OwnB w base (.slice (some ⟨g, 0, none⟩) 8 8) stB) : Rd w (some ⟨g, 0, none⟩) 8 stB := by
  obtain ⟨A', c', e, hr⟩ := h.rd
  cases e
  exact hr
/-- What stands behind both tellings. -/
structure PcS (w0 w : World) (B : Option Addr) (d : Nat) (b : List UInt8) (M : Nat) (E : List Ev) (A1 : Option Addr) (c1 : Nat) (A2 : Option Addr) (c2 : Nat) (A3 : Option Addr) (c3 : Nat) (A4 : Option Addr) (c4 : Nat) : Prop where
  old : Below w0.heap.size w0 w
  rb : Rd w B d b
  tells : Tells M b 0 E
  k1 : Rd w A1 c1 (kindsOf E)
  f1 : FrR w A2 c2 E
  k2 : Rd w A3 c3 (kindsOf E)
  f2 : FrR w A4 c4 E
theorem PcS.below {w0 w w' : World} {B : Option Addr} {d : Nat} {b : List UInt8} {M : Nat} {E : List Ev} {A1 A2 A3 A4 : Option Addr} {c1 c2 c3 c4 : Nat} (h : PcS w0 w B d b M E A1 c1 A2 c2 A3 c3 A4 c4) (hb : Below w.heap.size w w') : PcS w0 w' B d b M E A1 c1 A2 c2 A3 c3 A4 c4 :=
  ⟨below_then h.old h.old.size hb, h.rb.below hb, h.tells, h.k1.below hb, h.f1.below hb, h.k2.below hb, h.f2.below hb⟩

set_option maxRecDepth 100000 in
set_option maxHeartbeats 8000000 in
theorem ipieces_calls (z : Nat) (hz : z ≤ 65535) (B : Option Addr) (n d : Nat) (b : List UInt8) (P : Option Addr) (np e : Nat) (ns : List Nat) (P2 : Option Addr) (np2 e2 : Nat) (ns2 : List Nat) (w : World) (hb : Rd w B d b) (hn : b.length = n) (hp : Pcs w P e ns) (hnp : ns.length = np) (hp2 : Pcs w P2 e2 ns2) (hnp2 : ns2.length = np2) (hn8 : n ≤ 8192) :
    Calls Try.prog 4 #[.int .u16 z, .slice B n d, .slice P np e, .slice P2 np2 e2] w fun e w' => e = .returned (.bool true) ∧ Below w.heap.size w w' := by
  have HB := Lib.hid hb
  have HN := Lib.hid hn
  have HP := Lib.hid hp
  have HNP := Lib.hid hnp
  have HP2 := Lib.hid hp2
  have HNP2 := Lib.hid hnp2
  have hnd := hb.len
  rw [hn] at hnd
  obtain ⟨hnd1, hnd2⟩ := hnd
  obtain ⟨r, hr⟩ : ∃ r, z % 3585 = r := ⟨_, rfl⟩
  have hr2 : r ≤ 3584 := by omega
  have hre : (z : Int) % 3585 = (r : Int) := by omega
  have HM := Lib.hid (show 512 ≤ 512 + r ∧ 512 + r ≤ 4096 by omega)
  clear hb hn hp hnp hp2 hnp2 hr
  go_enter Try.func4, Try.ntmps4
  go_wp2_with fail
  refine (inew_ok (512 + r) w HM.out.1 HM.out.2).mono ?_
  rintro ee w1 ⟨rfl, i1, b1⟩
  have I1 := Lib.hid (And.intro i1 b1)
  clear i1 b1
  go_wp2_with fail
  refine (inew_ok (512 + r) w1 HM.out.1 HM.out.2).mono ?_
  obtain ⟨M, hMr⟩ : ∃ M, 512 + r = M := ⟨_, rfl⟩
  have e5 : (512 + (r : Int)) = (M : Int) := by omega
  rw [e5, hMr]
  rw [hMr] at I1
  have hM1 : 512 ≤ M := by omega
  have hM2 : M ≤ 4096 := by omega
  clear hre hr2 HM e5 hMr hz
  rintro ee w2 ⟨rfl, i2, b2⟩
  have I2 := Lib.hid (And.intro i2 b2)
  clear i2 b2
  go_wp2_with fail
  have hw12 : w.heap.size < w1.heap.size := I1.out.1.lt
  obtain ⟨a, hea⟩ : ∃ a, w.heap.size = a := ⟨_, rfl⟩
  obtain ⟨a2, hea2⟩ : ∃ a2, w1.heap.size = a2 := ⟨_, rfl⟩
  have HIN := Lib.hid (show In w2 a [a] M [] 0 ∧ In w2 a2 [a2] M [] 0 ∧ w.heap.size ≤ a ∧ a < a2 ∧ Below w.heap.size w w2 from
    ⟨by rw [← hea]; exact I1.out.1.below I2.out.2, by rw [← hea2]; exact I2.out.1, by omega, by omega, below_then I1.out.2 I1.out.2.size I2.out.2⟩)
  rw [hea, hea2]
  clear I1 I2 hea hea2 hw12
  refine (told_calls HIN.out.1 HIN.out.2.2.1 HIN.out.2.2.2.2 B d n b HB.out HN.out hn8 P e np ns HP.out HNP.out).mono ?_
  rintro ee w3 ⟨kv, fv, E, Z, l3, ph3, t3, rfl, ht3, s3⟩
  obtain ⟨A1, c1, rfl, -⟩ := s3.kinds.rd
  obtain ⟨A2, c2, rfl, -⟩ := s3.frames.reads
  have S3 := Lib.hid s3
  have T3 := Lib.hid ht3
  have HY := Lib.hid (show In w3 a2 [a2] M [] 0 from HIN.out.2.1.tch s3.t (by have := HIN.out.2.2.2.1; simp; omega))
  clear s3 ht3
  go_wp2_with fail
  refine (told_calls HY.out (by have := HIN.out; omega) S3.out.below0 B d n b HB.out HN.out hn8 P2 e2 np2 ns2 HP2.out HNP2.out).mono ?_
  rintro ee w4 ⟨kv, fv, E', Z', l4, ph4, t4, rfl, ht4, s4⟩
  obtain rfl : E = E' := T3.out.same ht4
  obtain ⟨A3, c3, rfl, r3⟩ := s4.kinds.rd
  obtain ⟨A4, c4, rfl, r4⟩ := s4.frames.reads
  have PS := Lib.hid (show PcS w w4 B d b M E A1 c1 A2 c2 A3 c3 A4 c4 by
    have hlt := HIN.out.2.1.lt
    have hk : OwnB w4 w2.heap.size (.slice A1 (kindsOf E).length c1) (kindsOf E) := OwnC.tch S3.out.kinds s4.t (fun k hk hm => by
      have := (OwnB.lt S3.out.kinds k hk).1
      simp at hm
      omega)
    have hf : FrO w4 w2.heap.size (.slice A2 E.length c2) Z E := S3.out.frames.tch s4.t (fun k hk hm => by
      have := (ToS.flt S3.out.frames k hk).1
      simp at hm
      omega) (fun k hk hm => by
      have := (S3.out.zs k hk).1
      simp at hm
      omega) (fun _ h => h)
    obtain ⟨A', c', e1, f1⟩ := hf.reads
    cases e1
    exact ⟨s4.below0, HB.out.below s4.below0, T3.out, (by obtain ⟨A', c', e, hr⟩ := OwnB.rd hk; cases e; exact hr), f1, r3, r4⟩)
  obtain ⟨m, hm⟩ : ∃ m, E.length = m := ⟨_, rfl⟩
  have HMM := Lib.hid hm
  have hkl : (kindsOf E).length = m := by rw [kindsOf_length, hm]
  rw [hkl, hm]
  have hm1 := PS.out.k1.len
  have hm2 := PS.out.k2.len
  have hm3 := PS.out.f1.le
  have hm4 := PS.out.f2.le
  have hm5 := PS.out.f1.max
  have hm6 := PS.out.f2.max
  rw [hkl] at hm1 hm2
  rw [hm] at hm3 hm4
  obtain ⟨hm1, hm7⟩ := hm1
  obtain ⟨hm2, hm8⟩ := hm2
  clear hm hkl HIN S3 T3 HY ht4 s4 r3 r4 HP HNP HP2 HNP2
  go_wp2_with fail
  go_loopw [20, 21, 22, 23, 24, 25] (fun ur ui _ _ _ _ wr => ∃ (i : Nat) (Ar : Option Addr) (nr cr : Nat) (rest : List UInt8) (ph : Nat), i ≤ m ∧ ui = .int .i64 i ∧ ur = .slice Ar nr cr ∧ PcS w wr B d b M E A1 c1 A2 c2 A3 c3 A4 c4 ∧ Rd wr Ar cr rest ∧ Hid (rest.length = nr) ∧ nr ≤ n ∧ Hid (i < m → Tells M rest ph (E.drop i) ∧ (i = 0 ∧ ph = 0 ∨ 0 < i ∧ ph = 1))) (fun _ ui _ _ _ _ _ => m - (intOf ui).toNat)
  case atStart => exact ⟨0, B, n, d, b, 0, by omega, rfl, rfl, PS.out, PS.out.rb, HN, Nat.le_refl _, Lib.hid (fun _ => ⟨PS.out.tells, .inl ⟨rfl, rfl⟩⟩)⟩
  case round =>
    obtain ⟨i, Ar, nr, cr, rest, ph, him, rfl, rfl, hps, hrr, HNR, hnr, HT⟩ := hrel
    have PW := Lib.hid hps
    have RR := Lib.hid hrr
    have hcr := hrr.len
    rw [HNR.out] at hcr
    obtain ⟨hcr1, hcr2⟩ := hcr
    clear hps hrr PS
    by_cases him2 : i < m
    · have him3 : (i : Int) < m := by omega
      have hiE : i < E.length := by rw [HMM.out]; exact him2
      have hiK : i < (kindsOf E).length := by rw [kindsOf_length]; exact hiE
      obtain ⟨ht, hph⟩ := HT.out him2
      rw [List.drop_eq_getElem_cons hiE] at ht
      obtain ⟨kb1, ko1, rfl, y1⟩ := PW.out.k1.plain (by omega)
      obtain ⟨kb2, ko2, rfl, y2⟩ := PW.out.k2.plain (by omega)
      replace y1 := y1 i hiK
      replace y2 := y2 i hiK
      obtain ⟨fb1, fo1, G1, g1, rfl, x1, x2, x3⟩ := PW.out.f1.at_ i hiE
      obtain ⟨fb2, fo2, G2, g2, rfl, x4, x5, x6⟩ := PW.out.f2.at_ i hiE
      have hki : (kindsOf E)[i] = UInt8.ofNat (E[i]).kind := by simp [kindsOf]
      rw [hki] at y1 y2
      obtain ⟨⟨kd, ch, bd⟩, hev⟩ : ∃ ev, E[i] = ev := ⟨_, rfl⟩
      rw [hev] at y1 y2 x1 x2 x3 x4 x5 x6 ht
      simp only at y1 y2 x1 x2 x3 x4 x5 x6
      obtain ⟨kk, hkk⟩ : ∃ kk, (UInt8.ofNat kd).toNat = kk := ⟨_, rfl⟩
      obtain ⟨nd, hnd⟩ : ∃ nd, bd.length = nd := ⟨_, rfl⟩
      have HND := Lib.hid hnd
      rw [hkk] at y1 y2
      rw [hnd] at x2 x5
      have HKK := Lib.hid hkk
      have X3 := Lib.hid x3
      have X6 := Lib.hid x6
      have HTC := Lib.hid (tells_cases ht)
      have HPH := Lib.hid hph
      clear x3 x6 hkk hnd ht hph HT hki hev
      go_wp2_with fail
      go_region_held3 (fun W' => W'.cell? ⟨kb1, ko1 + i, none⟩ = some (.int .u8 kk) ∧ W'.cell? ⟨kb2, ko2 + i, none⟩ = some (.int .u8 kk) ∧ W'.cell? ⟨fb1, fo1 + i * 2, none⟩ = some (.int .u16 ch) ∧ W'.cell? ⟨fb1, fo1 + i * 2 + 1, none⟩ = some (.slice G1 nd g1) ∧ W'.cell? ⟨fb2, fo2 + i * 2, none⟩ = some (.int .u16 ch) ∧ W'.cell? ⟨fb2, fo2 + i * 2 + 1, none⟩ = some (.slice G2 nd g2)) (go_keep)
        (first
          | (go_at_call 19; refine (same_n (b := true) (X3.out.below (below_drew wr)) (X6.out.below (below_drew wr)) HND.out HND.out (by simp)).mono ?_; rintro e6 w6 ⟨rfl, b6⟩; have bb := below_of_drew b6; have m1 := stays_ bb y1; have m2 := stays_ bb y2; have m3 := stays_ bb x1; have m4 := stays_ bb x2; have m5 := stays_ bb x4; have m6 := stays_ bb x5; have B6 := Lib.hid bb; clear b6 bb))
      have HTL := Lib.hid (show E.drop (i + 1) = [] → ¬ i + 1 < m from fun h hl => by have := congrArg List.length h; rw [List.length_drop, HMM.out] at this; simp at this; omega)
      clear y1 y2 x1 x2 x4 x5
      rcases HTC.out with ⟨hev, hE⟩ | ⟨hev, hph0, h8, htk, ht2⟩ | ⟨hev, hph1, he0, hnl, hn8', ht2⟩
      · injection hev with h1 h2 h3
        obtain rfl : kk = 3 := by rw [← HKK.out, h1]; rfl
        have HE := Lib.hid hE
        clear h1 h2 h3 hE
        go_wp2_with fail
        exact ⟨⟨i + 1, Ar, nr, cr, rest, ph, by omega, by go_num, rfl, PW.out.below B6.out, RR.out.below B6.out, HNR, hnr, Lib.hid (fun h => absurd h (HTL.out HE.out))⟩, by simp [intOf]; omega⟩
      · injection hev with h1 h2 h3
        obtain rfl : kk = 1 := by rw [← HKK.out, h1]; rfl
        have hi0 : i = 0 := by rcases HPH.out with h | h <;> omega
        have e1 : decide ((0 : Int) < (i : Int)) = false := decide_eq_false (by omega)
        have e2 : decide (0 < i) = false := decide_eq_false (by omega)
        rw [HNR.out] at h8
        have e3 : decide ((nr : Int) < 8) = false := decide_eq_false (by omega)
        have HT2 := Lib.hid ht2
        have HTK := Lib.hid htk
        have hsl1 := slice_to Ar nr cr 8 (by omega)
        try simp only [show ((8 : Nat) : Int) = 8 from rfl] at hsl1
        have hsl2 := fun W => slice_from' Ar nr cr 8 .i64 8 rfl h8 W
        obtain ⟨n8, hn8e⟩ : ∃ n8, nr - 8 = n8 := ⟨_, rfl⟩
        obtain ⟨c8, hc8⟩ : ∃ c8, cr - 8 = c8 := ⟨_, rfl⟩
        obtain ⟨C8, hC8⟩ : ∃ C8, cutA Ar cr 8 1 = C8 := ⟨_, rfl⟩
        have HR8 := Lib.hid (show Rd w6 C8 c8 (rest.drop 8) ∧ (rest.drop 8).length = n8 ∧ n8 ≤ nr by
          have := (RR.out.below B6.out).cut 8 nr h8 (by rw [HNR.out]; exact Nat.le_refl _)
          rw [hc8, hC8, List.take_of_length_le (by rw [HNR.out]; exact Nat.le_refl _)] at this
          exact ⟨this, by rw [List.length_drop, HNR.out]; exact hn8e, by omega⟩)
        have HR0 := Lib.hid (show Rd w6 Ar cr (rest.take 8) ∧ (rest.take 8).length = 8 from ⟨(RR.out.below B6.out).take0 (by rw [HNR.out]; exact h8), by rw [List.length_take, HNR.out]; omega⟩)
        rw [hn8e, hc8, hC8] at hsl2
        have HI0 := Lib.hid hi0
        clear h1 h2 h3 ht2 htk hn8e hc8 hC8 hi0
        go_wp2_with fail
        refine (istart_calls _).mono ?_
        rintro e7 w7 ⟨rfl, o7, b7⟩
        have O7 := Lib.hid o7
        have B7 := Lib.hid b7
        have m1' := stays_ b7 m1
        clear o7 b7
        go_wp2_with fail
        refine (eq_n (b := true) (HR0.out.1.below B7.out) (O7.out.rd_n8) HR0.out.2 rfl (by rw [HTK.out]; rfl)).mono ?_
        rintro e8 w8 ⟨rfl, rfl⟩
        go_wp2_with fail
        exact ⟨⟨i + 1, C8, n8, c8, rest.drop 8, 1, by omega, by go_num, rfl, (PW.out.below B6.out).below B7.out, HR8.out.1.below B7.out, Lib.hid HR8.out.2.1, by have := HR8.out.2.2; omega, Lib.hid (fun _ => ⟨HT2.out, .inr ⟨by omega, rfl⟩⟩)⟩, by simp [intOf]; omega⟩
      · injection hev with h1 h2 h3
        obtain rfl : kk = 2 := by rw [← HKK.out, h1]; rfl
        have hi0 : 0 < i := by rcases HPH.out with h | h <;> omega
        have e1 : ((i : Int) == 0) = false := by rw [beq_eq_false_iff_ne]; omega
        have e2 : ¬ i = 0 := by omega
        obtain ⟨⟨er, fn, fc, fb⟩, hfr⟩ : ∃ r, fr rest M = r := ⟨_, rfl⟩
        have HFR := Lib.hid hfr
        rw [hfr] at he0 hnl hn8' ht2 h2 h3
        simp only at he0 hnl hn8' ht2 h2 h3
        subst he0 h2 h3
        rw [HNR.out] at hnl
        have HT2 := Lib.hid ht2
        have e3 : decide ((fn : Int) < 8) = false := decide_eq_false (by omega)
        clear h1 ht2 hfr
        go_wp2_with fail
        refine (read_n (RR.out.below B6.out) (by omega) HNR.out HFR.out).mono ?_
        rintro e7 w7 ⟨v7, rfl, o7, b7⟩
        obtain ⟨A7, c7, rfl⟩ := OwnC.slice o7
        have o7' : OwnB w7 w6.heap.size (.slice A7 bd.length c7) bd := o7
        rw [HND.out] at o7'
        have R7 := Lib.hid (show Rd w7 A7 c7 bd by
          obtain ⟨A', c', e, hr⟩ := OwnB.rd o7'
          cases e
          exact hr)
        simp only [frRet]
        rw [HND.out]
        have p3 := stays_ b7 m3
        have p4 := stays_ b7 m4
        have B7 := Lib.hid (below_then B6.out B6.out.size b7)
        clear o7 o7' b7 m3 m4 m1 m2 m5 m6
        go_wp2_with fail
        obtain ⟨X, hX⟩ : ∃ X, w7.heap.size = X := ⟨_, rfl⟩
        refine forget (fun W => W.cell? ⟨X, 0, none⟩ = some (.int .u16 ch) ∧ W.cell? ⟨X, 1, none⟩ = some (.slice A7 nd c7) ∧ W.cell? ⟨fb1, fo1 + i * 2, none⟩ = some (.int .u16 ch) ∧ W.cell? ⟨fb1, fo1 + i * 2 + 1, none⟩ = some (.slice G1 nd g1) ∧ Rd W A7 c7 bd ∧ Below wr.heap.size wr W)
          ⟨by rw [← hX]; go_simp, by rw [← hX]; go_simp, keeps_alloc p3 _, keeps_alloc p4 _, R7.out.below (below_alloc w7 _), below_then B7.out B7.out.size (below_alloc w7 _)⟩ ?_
        rw [hX]
        rintro W ⟨f0, f1, f2, f3, f4, f5⟩
        have F4 := Lib.hid f4
        have F5 := Lib.hid f5
        clear f4 f5 p3 p4 hX R7
        go_region_held3 (fun W' => W'.cell? ⟨X, 0, none⟩ = some (.int .u16 ch) ∧ W'.cell? ⟨X, 1, none⟩ = some (.slice A7 nd c7) ∧ W'.cell? ⟨fb1, fo1 + i * 2, none⟩ = some (.int .u16 ch) ∧ W'.cell? ⟨fb1, fo1 + i * 2 + 1, none⟩ = some (.slice G1 nd g1)) (go_keep)
          (first
            | (go_at_call 19; refine (same_n (b := true) ((X3.out.below F5.out).below (below_drew W)) (F4.out.below (below_drew W)) HND.out HND.out (by simp)).mono ?_; rintro e9 w9 ⟨rfl, b9⟩; have bb := below_of_drew b9; have n0 := stays_ bb f0; have n1 := stays_ bb f1; have n2 := stays_ bb f2; have n3 := stays_ bb f3; have B9 := Lib.hid (below_then F5.out F5.out.size bb); clear b9 bb))
        have hsl2 := fun W => slice_from' Ar nr cr fn .i64 fn rfl hnl W
        obtain ⟨n8, hn8e⟩ : ∃ n8, nr - fn = n8 := ⟨_, rfl⟩
        obtain ⟨c8, hc8⟩ : ∃ c8, cr - fn = c8 := ⟨_, rfl⟩
        obtain ⟨C8, hC8⟩ : ∃ C8, cutA Ar cr fn 1 = C8 := ⟨_, rfl⟩
        have HR8 := Lib.hid (show Rd w9 C8 c8 (rest.drop fn) ∧ (rest.drop fn).length = n8 ∧ n8 ≤ nr by
          have := (RR.out.below B9.out).cut fn nr hnl (by rw [HNR.out]; exact Nat.le_refl _)
          rw [hc8, hC8, List.take_of_length_le (by rw [HNR.out]; exact Nat.le_refl _)] at this
          exact ⟨this, by rw [List.length_drop, HNR.out]; exact hn8e, by omega⟩)
        rw [hn8e, hc8, hC8] at hsl2
        clear hn8e hc8 hC8
        go_wp2_with fail
        exact ⟨⟨i + 1, C8, n8, c8, rest.drop fn, 1, by omega, by go_num, rfl, PW.out.below B9.out, HR8.out.1, Lib.hid HR8.out.2.1, by have := HR8.out.2.2; omega, Lib.hid (fun _ => ⟨HT2.out, .inr ⟨by omega, rfl⟩⟩)⟩, by simp [intOf]; omega⟩
    · obtain rfl : i = m := by omega
      go_wp2_with fail
      refine (works_calls _).mono ?_
      rintro e w7 ⟨rfl, b7⟩
      have B7 := Lib.hid (below_then PW.out.old PW.out.old.size b7)
      clear b7
      go_wp2_with fail
      go_ret
      exact ⟨rfl, B7.out⟩
theorem ipieces_row {w : World} (x : Int) (hx : (Lit.int .u16 x).wf = true) (B : Option Addr) (d : Nat) (b : List UInt8) (hb : Rd w B d b) (P : Option Addr) (e : Nat) (ns : List Nat) (hp : Pcs w P e ns) (P2 : Option Addr) (e2 : Nat) (ns2 : List Nat) (hp2 : Pcs w P2 e2 ns2) :
    Calls Try.prog 4 #[.int .u16 x, .slice B b.length d, .slice P ns.length e, .slice P2 ns2.length e2] w fun e w' => e = .returned (.bool true) ∧ Below w.heap.size w w' := by
  obtain ⟨h1, h2⟩ := wf_u16 hx
  obtain ⟨z, rfl⟩ := Int.eq_ofNat_of_zero_le h1
  by_cases h : 8192 < b.length
  · exact ipieces_big z B b.length d P ns.length e P2 ns2.length e2 w h
  · exact ipieces_calls z (by omega) B b.length d b P ns.length e ns P2 ns2.length e2 ns2 w hb rfl hp rfl hp2 rfl (by omega)
end Go.Proofs.Ytmeljnohkhkfmaa

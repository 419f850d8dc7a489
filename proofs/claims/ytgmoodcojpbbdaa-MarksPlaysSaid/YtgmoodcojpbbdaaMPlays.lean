import Derived.Test.YtgmoodcojpbbdaaMeantM
import Derived.Test.YtgmoodcojpbbdaaSameM
import Derived.Test.YtgmoodcojpbbdaaOnceLaw
import Derived.Test.YtgmoodcojpbbdaaOpenM2
import Derived.Test.YtgmoodcojpbbdaaMNil
set_option linter.unusedVariables false
set_option linter.unusedSimpArgs false
namespace Go.Proofs.Ytgmoodcojpbbdaa
open Go.RowKit

theorem oat_tch {w w' : World} {F : List Nat} {b o : Nat} {d : OpD} (h : OAt w b o d) (ht : Tch F w w') (hb : b ∉ F) : OAt w' b o d :=
  ⟨ht.cell h.1 hb, ht.cell h.2.1 hb, ht.cell h.2.2.1 hb, ht.cell h.2.2.2.1 hb, ht.cell h.2.2.2.2.1 hb, ht.cell h.2.2.2.2.2.1 hb, ht.cell h.2.2.2.2.2.2 hb⟩
theorem oat_below {w w' : World} {b o : Nat} {d : OpD} (h : OAt w b o d) (ht : Below w.heap.size w w') : OAt w' b o d := oat_tch h (Tch.of_below [] ht) (by simp)
/-- Behind something done. -/
structure Q1 (w w2 : World) (a b : Nat) (F G : List Nat) (ms ms2 : Ms) (x : AnsM) (A B : Option Addr) (c d : Nat) : Prop where
  m : MkF w w2 a F ms2
  r : Rf w2 b G ms
  dis : ∀ q ∈ F, q ∉ G
  hi : ∀ q ∈ G, w.heap.size ≤ q
  rl : RdC 6 w2 A x.l.length c (scs x.l)
  rs : RdC 1 w2 B x.s.length d (x.s.map str)
  al : ∀ ad, A = some ad → ad.block ∉ G
  bl : ∀ ad, B = some ad → ad.block ∉ G
theorem q1_mk {w W w2 : World} {a b : Nat} {F F2 G : List Nat} {ms ms2 : Ms} {x : AnsM} {lv sv : Value} (hm : MkF w W a F ms) (hr : Rf W b G ms) (hd : ∀ q ∈ F, q ∉ G) (hi : ∀ q ∈ G, w.heap.size ≤ q)
    (ol : OwnS w2 W.heap.size lv x.l) (os : OwnT w2 W.heap.size sv x.s) (m2 : MkF w w2 a F2 ms2) (t2 : Tch F W w2) (f2 : ∀ q ∈ F2, q ∈ F ∨ W.heap.size ≤ q) :
    ∃ A B c d, lv = .slice A x.l.length c ∧ sv = .slice B x.s.length d ∧ Q1 w w2 a b F2 G ms ms2 x A B c d := by
  obtain ⟨A, c, rfl, rl⟩ := OwnC.rd ol
  obtain ⟨B, d, rfl, rs⟩ := OwnC.rd os
  refine ⟨A, B, c, d, rfl, rfl, m2, hr.tch t2 (fun q hq h => hd q h hq), fun q hq hg => ?_, hi, rl, rs, fun ad had hg => ?_, fun ad had hg => ?_⟩
  · have := hr.lts q hg
    rcases f2 q hq with h | h
    · exact hd q h hg
    · omega
  · have h1 := (OwnC.lt ol ad.block (by rw [had]; rfl)).1
    have := hr.lts _ hg
    omega
  · have h1 := (OwnC.lt os ad.block (by rw [had]; rfl)).1
    have := hr.lts _ hg
    omega
/-- Behind what is meant. -/
structure Q2 (w w3 : World) (a b : Nat) (F G : List Nat) (ms2 : Ms) (x : AnsM) (A B C D : Option Addr) (c d g h : Nat) : Prop where
  m : MkF w w3 a F ms2
  r : Rf w3 b G ms2
  dis : ∀ q ∈ F, q ∉ G
  hi : ∀ q ∈ G, w.heap.size ≤ q
  r1 : RdC 6 w3 A x.l.length c (scs x.l)
  r2 : RdC 1 w3 B x.s.length d (x.s.map str)
  r3 : RdC 6 w3 C x.l.length g (scs x.l)
  r4 : RdC 1 w3 D x.s.length h (x.s.map str)
theorem q2_mk {w w2 w3 : World} {a b : Nat} {F G G3 : List Nat} {ms ms2 : Ms} {x : AnsM} {A B : Option Addr} {c d : Nat} {lv sv : Value} (p : Q1 w w2 a b F G ms ms2 x A B c d)
    (ol : OwnS w3 w2.heap.size lv x.l) (os : OwnT w3 w2.heap.size sv x.s) (r3 : Rf w3 b G3 ms2) (t3 : Tch G w2 w3) (f3 : ∀ q ∈ G3, q ∈ G ∨ w2.heap.size ≤ q) :
    ∃ C D g h, lv = .slice C x.l.length g ∧ sv = .slice D x.s.length h ∧ Q2 w w3 a b F G3 ms2 x A B C D c d g h := by
  obtain ⟨C, g, rfl, rl⟩ := OwnC.rd ol
  obtain ⟨D, h, rfl, rs⟩ := OwnC.rd os
  refine ⟨C, D, g, h, rfl, rfl, ⟨p.m.old.trans (t3.below p.m.old.size p.hi), p.m.is.tch t3 p.dis, p.m.hi⟩, r3, fun q hq hg => ?_, fun q hg => ?_, p.rl.tch t3 p.al, p.rs.tch t3 p.bl, rl, rs⟩
  · rcases f3 q hg with h | h
    · exact p.dis q hq h
    · have := p.m.is.lts q hq
      omega
  · rcases f3 q hg with h | h
    · exact p.hi q h
    · have := p.m.old.size
      omega
/-- Both marks, apart. -/
structure Two (w w3 : World) (a b : Nat) (F G : List Nat) (ms : Ms) : Prop where
  m : MkF w w3 a F ms
  r : Rf w3 b G ms
  dis : ∀ q ∈ F, q ∉ G
  hi : ∀ q ∈ G, w.heap.size ≤ q
theorem Q2.two {w w3 : World} {a b : Nat} {F G : List Nat} {ms2 : Ms} {x : AnsM} {A B C D : Option Addr} {c d g h : Nat} (p : Q2 w w3 a b F G ms2 x A B C D c d g h) : Two w w3 a b F G ms2 := ⟨p.m, p.r, p.dis, p.hi⟩
theorem Two.below {w w3 w4 : World} {a b : Nat} {F G : List Nat} {ms : Ms} (p : Two w w3 a b F G ms) (hb : Below w3.heap.size w3 w4) : Two w w4 a b F G ms := ⟨p.m.below hb, p.r.below hb, p.dis, p.hi⟩
theorem Two.off {w w3 w4 : World} {a b : Nat} {F G Z : List Nat} {ms : Ms} (p : Two w w3 a b F G ms) (t : Tch Z w3 w4) (hz : ∀ k ∈ Z, k ∉ F ∧ k ∉ G ∧ w.heap.size ≤ k) : Two w w4 a b F G ms :=
  ⟨⟨p.m.old.trans (t.below p.m.old.size (fun k hk => (hz k hk).2.2)), p.m.is.tch t (fun k hk h => (hz k h).1 hk), p.m.hi⟩, p.r.tch t (fun k hk h => (hz k h).2.1 hk), p.dis, p.hi⟩
theorem rd_old {w w' : World} {A : Option Addr} {n c : Nat} {th : Ms} (h : RdC 5 w A n c (mcs th)) {G : List Nat} (hi : ∀ q ∈ G, w.heap.size ≤ q) : ∀ u, (mcs th)[0]? = some u → ∀ ad, A = some ad → ad.block ∉ G := by
  intro u hu ad had hg
  obtain ⟨ad', e, hc⟩ := h.cell 0 u hu
  rw [had] at e
  cases e
  have h1 := cell_lt hc
  rw [show (ad.add 0).block = ad.block from by unfold Addr.add; split <;> rfl] at h1
  have := hi _ hg
  omega

set_option maxRecDepth 100000 in
set_option maxHeartbeats 8000000 in
theorem mplays_calls (A : Option Addr) (c : Nat) (ops : List OpD) (w : World) (ho : RdO w A c ops) :
    Calls Try.prog 3 #[.slice A ops.length c] w fun e w' => e = .returned (.bool true) ∧ Below w.heap.size w w' := by
  have HO := Lib.hid ho.1
  have HOK := Lib.hid ho.2
  have hlc := ho.1.2.1
  have hmx := ho.1.2.2.1
  obtain ⟨N, hN⟩ : ∃ N, ops.length = N := ⟨_, rfl⟩
  rw [hN] at HO hlc ⊢
  have HN := Lib.hid hN
  clear ho hN
  cases hv : vastL ops with
  | true =>
    have HV := Lib.hid hv
    clear hv
    go_enter Try.func3, Try.ntmps3
    go_wp2_with fail
    refine (vast_any A N c ops true HV.out _ HO.out).mono ?_
    rintro e w1 ⟨rfl, rfl⟩
    go_wp2_with fail
    refine (works_calls _).mono ?_
    rintro e w2 ⟨rfl, b2⟩
    have B2 := Lib.hid b2
    clear b2
    go_wp2_with fail
    go_ret
    exact ⟨rfl, B2.out⟩
  | false =>
    have HV := Lib.hid hv
    have HVN := Lib.hid (show ∀ d ∈ ops, d.n ≤ 100 from fun d hd => by
      have h := hv
      simp only [vastL, Bool.or_eq_false_iff, List.any_eq_false, vastD] at h
      have := h.2 d hd
      simp at this
      exact this.2)
    clear hv
    go_enter Try.func3, Try.ntmps3
    go_wp2_with fail
    refine (vast_any A N c ops false HV.out _ HO.out).mono ?_
    rintro e w1 ⟨rfl, rfl⟩
    go_wp2_with fail
    refine (mf_new w w (Below.refl _ _)).mono ?_
    rintro e w1 ⟨rfl, m1, -⟩
    have M1 := Lib.hid m1
    clear m1
    obtain ⟨a, ha⟩ : ∃ a, w.heap.size + 1 = a := ⟨_, rfl⟩
    rw [ha] at M1 ⊢
    clear ha
    go_wp2_with fail
    refine (rnew_calls w1).mono ?_
    rintro e w2 ⟨rfl, r2, b2⟩
    have T2 := Lib.hid (show Two w w2 a w1.heap.size [w.heap.size, a] [w1.heap.size] [] from ⟨M1.out.below b2, r2, fun x hx hx2 => by
      have := M1.out.is.lts x hx
      simp at hx2
      omega, fun x hx => by
      have := M1.out.old.size
      simp at hx
      omega⟩)
    obtain ⟨b, hb⟩ : ∃ b, w1.heap.size = b := ⟨_, rfl⟩
    rw [hb] at T2 ⊢
    clear r2 b2 hb M1
    go_wp2_with fail
    go_loopw [5, 6, 7] (fun i _ _ wr => ∃ (q : Nat) (F G : List Nat) (ms : Ms), q ≤ N ∧ i = .int .i64 q ∧ Two w wr a b F G ms ∧ Hid (GoodM 32 ms)) (fun i _ _ _ => N - (intOf i).toNat)
    case atStart => exact ⟨0, _, _, _, by omega, rfl, T2.out, Lib.hid ⟨by simp, by decide, by simp, by simp⟩⟩
    case round =>
      obtain ⟨q, F, G, ms, hq, rfl, htw, HG⟩ := hrel
      have HT := Lib.hid htw
      clear htw
      obtain ⟨wo, rfl⟩ : ∃ wo : World, wo = wr := ⟨_, rfl⟩
      by_cases hqN : q < N
      · have hql : q < ops.length := by rw [HN.out]; exact hqN
        have hqN' : (q : Int) < N := by omega
        obtain ⟨b0, o0, e, g0, g1, g2, g3, g4, g5, g6⟩ := op_at (HO.out.below HT.out.m.old) q hql
        subst e
        have hok := HOK.out _ (List.getElem_mem hql)
        have hn100 := HVN.out _ (List.getElem_mem hql)
        have hb0 : b0 < w.heap.size := by
          obtain ⟨b1, o1, e, y0, _⟩ := op_at HO.out q hql
          cases e
          exact cell_lt y0
        obtain ⟨⟨K, t, o, A', n', c', th⟩, hd⟩ : ∃ d, ops[q] = d := ⟨_, rfl⟩
        rw [hd] at g0 g1 g2 g3 g4 g5 g6 hok hn100
        simp only at g0 g1 g2 g3 g4 g5 g6 hn100
        have HOKd := Lib.hid hok.2
        have HBF := Lib.hid (show b0 ∉ F from fun h => by have := HT.out.m.hi b0 h; omega)
        have HBG := Lib.hid (show b0 ∉ G from fun h => by have := HT.out.hi b0 h; omega)
        have HND := Lib.hid HT.out.m.is.nodup
        have HLEN := Lib.hid (show ms.length ≤ 1000000 by have := HG.out.few; omega)
        have HOA := Lib.hid (show OAt wo b0 (o0 + q * 7) ⟨K, t, o, A', n', c', th⟩ from ⟨g0, g1, g2, g3, g4, g5, g6⟩)
        have HAG := Lib.hid (rd_old (w' := w) HOKd.out HT.out.hi)
        obtain ⟨x, ms2, hdo⟩ : ∃ x ms2, doM ms ⟨K, t, o, A', n', c', th⟩ = (x, ms2) := by
          cases h : doM ms ⟨K, t, o, A', n', c', th⟩ with
          | mk x e2 => exact ⟨x, e2, rfl⟩
        have HDO := Lib.hid hdo
        have G2 := Lib.hid (good_do HG.out HDO.out)
        have HLEN2 := Lib.hid (show ms2.length ≤ 1000000 by have := G2.out.few; omega)
        clear hok hd hdo
        go_wp2_with fail
        go_region_held3 (fun W' => W'.cell? ⟨b0, o0 + q * 7, none⟩ = some (.int .i64 K) ∧ W'.cell? ⟨b0, o0 + q * 7 + 1, none⟩ = some (.string ⟨t.toArray⟩) ∧ W'.cell? ⟨b0, o0 + q * 7 + 2, none⟩ = some (.int .u8 o.k) ∧ W'.cell? ⟨b0, o0 + q * 7 + 3, none⟩ = some (.int .u64 o.a) ∧ W'.cell? ⟨b0, o0 + q * 7 + 4, none⟩ = some (.int .u64 o.b) ∧ W'.cell? ⟨b0, o0 + q * 7 + 5, none⟩ = some (.string ⟨o.c.toArray⟩) ∧ W'.cell? ⟨b0, o0 + q * 7 + 6, none⟩ = some (.slice A' n' c')) (go_keep)
          (first
            | (go_at_call 15; refine (doesM_calls (N := 0) (HT.out.m.below (below_drew _)) HLEN.out ((HOKd.out.below HT.out.m.old).below (below_drew _)) hn100 HDO.out).mono ?_; rintro e w2 ⟨F2, lv, sv, rfl, ol, os, m2, t2, f2⟩; obtain ⟨A2, B2, c2, d2, rfl, rfl, p1⟩ := q1_mk (HT.out.m.below (below_drew _)) (HT.out.r.below (below_drew _)) HT.out.dis HT.out.hi ol os m2 t2 f2; have HP1 := Lib.hid p1; have HOA2 := Lib.hid (oat_tch HOA.out t2.of_drew HBF.out); obtain ⟨y0, y1, y2, y3, y4, y5, y6⟩ := HOA2.out; clear ol os m2 t2 f2 p1 g0 g1 g2 g3 g4 g5 g6)
            | (go_at_call 16; refine (meantM_calls HP1.out.r HND.out HLEN.out (HOKd.out.below HP1.out.m.old) HAG.out HDO.out).mono ?_; rintro e w3 ⟨G3, lv, sv, rfl, ol, os, r3, t3, f3⟩; obtain ⟨C2, D2, gg, hh, rfl, rfl, p2⟩ := q2_mk HP1.out ol os r3 t3 f3; have HP2 := Lib.hid p2; have HOA3 := Lib.hid (oat_tch HOA2.out t3 HBG.out); obtain ⟨z0, z1, z2, z3, z4, z5, z6⟩ := HOA3.out; clear ol os r3 t3 f3 p2)
            | (go_at_call 14; refine (sameM_calls x A2 B2 C2 D2 c2 d2 gg hh _ HP2.out.r1 HP2.out.r2 HP2.out.r3 HP2.out.r4).mono ?_; rintro e w4 ⟨rfl, b4⟩; have HP4 := Lib.hid (HP2.out.two.below b4); have HOA4 := Lib.hid (oat_below HOA3.out b4); obtain ⟨s0, s1, s2, s3, s4, s5, s6⟩ := HOA4.out; clear b4)
            | (go_at_call 18; refine (mf_list HP4.out.m HLEN2.out).mono ?_; rintro e w5 ⟨v5, rfl, o5, -, b5⟩; obtain ⟨A5, c5, rfl, r5⟩ := o5.rd; have R5 := Lib.hid r5; have HP5 := Lib.hid (HP4.out.below b5); have HOA5 := Lib.hid (oat_below HOA4.out b5); obtain ⟨l0, l1, l2, l3, l4, l5, l6⟩ := HOA5.out; clear b5 o5 r5)
            | (go_at_call 19; refine (rlist_calls b G3 ms2 _ HP5.out.r HLEN2.out).mono ?_; rintro e w6 ⟨v6, rfl, o6, b6⟩; obtain ⟨A6, c6, rfl, r6⟩ := o6.rd; have R6 := Lib.hid (And.intro (R5.out.below b6) r6); have HP6 := Lib.hid (HP5.out.below b6); have HOA6 := Lib.hid (oat_below HOA5.out b6); obtain ⟨m0, m1, m2, m3, m4, m5, m6⟩ := HOA6.out; clear b6 o6 r6)
            | (go_at_call 17; refine (smarks_calls ms2 A5 A6 ms2.length c5 c6 _ R6.out.1 R6.out.2).mono ?_; rintro e w7 ⟨rfl, b7⟩; have HP7 := Lib.hid (HP6.out.below b7); have HOA7 := Lib.hid (oat_below HOA6.out b7); obtain ⟨n0, n1, n2, n3, n4, n5, n6⟩ := HOA7.out; clear b7)
            | (go_at_call 20; refine (final_calls o _).mono ?_; rintro e w8 ⟨rfl, b8⟩; have HP8 := Lib.hid (HP7.out.below b8); have HOA8 := Lib.hid (oat_below HOA7.out b8); obtain ⟨v0, v1, v2, v3, v4, v5, v6⟩ := HOA8.out; clear b8)
            | (go_at_call 21; refine (rfinal_calls o _).mono ?_; rintro e w9 ⟨rfl, b9⟩; have HP9 := Lib.hid (HP8.out.below b9); obtain ⟨x0, x1, x2, x3, x4, x5, x6⟩ := oat_below HOA8.out b9; clear b9))
        all_goals
          clear y0 y1 y2 y3 y4 y5 y6 z0 z1 z2 z3 z4 z5 z6 s0 s1 s2 s3 s4 s5 s6 l0 l1 l2 l3 l4 l5 l6 m0 m1 m2 m3 m4 m5 m6 n0 n1 n2 n3 n4 n5 n6 v0 v1 v2 v3 v4 v5 v6
          go_wp2_with fail
          refine (mf_list HP9.out.m HLEN2.out).mono ?_
          rintro e w10 ⟨v10, rfl, o10, -, b10⟩
          obtain ⟨A10, c10, rfl⟩ := o10.slice
          have HP10 := Lib.hid (HP9.out.below b10)
          obtain ⟨n2, hn2⟩ : ∃ n2, ms2.length = n2 := ⟨_, rfl⟩
          have hn32 : n2 ≤ 32 := by rw [← hn2]; exact G2.out.few
          rw [hn2] at o10 ⊢
          have O10 := Lib.hid o10
          have HOB := Lib.hid (show ∀ k, (Value.slice A10 n2 c10).ownBlock = some k → w9.heap.size ≤ k ∧ k < w10.heap.size from fun k hk => o10.lt k hk)
          clear b10 hn2 o10
          go_wp2_with fail
          go_loopw [7] (fun u wi => ∃ (j : Nat) (cs : List Value), j ≤ n2 ∧ u = .int .i64 j ∧ OwnC 47 5 (fun _ => True) wi w9.heap.size (.slice A10 n2 c10) n2 cs ∧ Tch (Value.slice A10 n2 c10).ownBlock.toList w10 wi) (fun u _ => n2 - (intOf u).toNat)
          case atStart => exact ⟨0, _, by omega, rfl, O10.out, Tch.refl _ _⟩
          case round =>
            obtain ⟨j, cs, hj, rfl, hoj, htj⟩ := hrel
            have OJ := Lib.hid hoj
            have TJ := Lib.hid htj
            clear htj
            obtain ⟨wi, rfl⟩ : ∃ wi : World, wi = wr := ⟨_, rfl⟩
            by_cases hjn : j < n2
            · have hjn' : (j : Int) < n2 := by omega
              obtain ⟨g, cap, e, hg1, hg2, hg3⟩ := hoj.form (by omega)
              cases e
              have hl5 : cs.length = n2 * 5 := hoj.1
              obtain ⟨cu, hcu⟩ : ∃ cu, cs[j * 5]? = some cu := ⟨_, List.getElem?_eq_getElem (by omega)⟩
              obtain ⟨c0, c1⟩ := hoj.cell_at (j * 5) cu hcu
              have HS := Lib.hid (hoj.set_cell (j * 5) (by omega) (.string ⟨#[115, 112, 111, 105, 108, 116]⟩) rfl)
              clear hoj hcu
              go_wp2_with fail
              exact ⟨⟨j + 1, _, by omega, by go_num, HS.out, TJ.out.setCell _ (.inl (by simp [Value.ownBlock]))⟩, by simp [intOf]; omega⟩
            · obtain rfl : j = n2 := by omega
              have HP11 := Lib.hid (HP10.out.off TJ.out (fun k hk => by
                have hk' := HOB.out k (by simpa using hk)
                refine ⟨fun h => ?_, fun h => ?_, ?_⟩
                · have := HP9.out.m.is.lts k h; omega
                · have := HP9.out.r.lts k h; omega
                · have := HP9.out.m.old.size; omega))
              clear hoj
              go_wp2_with fail
              exact ⟨⟨q + 1, F2, G3, ms2, by omega, by go_num, HP11.out, G2⟩, by simp [intOf]; omega⟩
      · obtain rfl : q = N := by omega
        go_wp2_with fail
        refine (works_calls _).mono ?_
        rintro e w7 ⟨rfl, b7⟩
        have B7 := Lib.hid (below_then HT.out.m.old HT.out.m.old.size b7)
        clear b7
        go_wp2_with fail
        go_ret
        exact ⟨rfl, B7.out⟩
theorem mplays_row {w : World} (A : Option Addr) (c : Nat) (ops : List OpD) (ho : RdO w A c ops) :
    Calls Try.prog 3 #[.slice A ops.length c] w fun e w' => e = .returned (.bool true) ∧ Below w.heap.size w w' := mplays_calls A c ops w ho
end Go.Proofs.Ytgmoodcojpbbdaa

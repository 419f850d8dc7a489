import Derived.Test.YtafmhpcfjmannaaMeant
import Derived.Deep.RegionHeld3
set_option linter.unusedVariables false
set_option linter.unusedSimpArgs false
namespace Go.Proofs.Ytafmhpcfjmannaa
open Go.RowKit

theorem RdC.tchB {sz : Nat} {F : List Nat} {w w' : World} {A : Option Addr} {n c : Nat} {cs : List Value} (h : RdC sz w A n c cs) (ht : Tch F w w') (hne : ∀ ad, A = some ad → ad.block ∉ F) : RdC sz w' A n c cs := h.tch ht hne
/-- Behind something done. -/
structure P1 (w w2 : World) (a b : Nat) (F G : List Nat) (es es2 : Is) (x : AnsI) (A B : Option Addr) (c d : Nat) : Prop where
  m : IkF w w2 a F es2
  r : Rk w2 b G es
  dis : ∀ q ∈ F, q ∉ G
  hi : ∀ q ∈ G, w.heap.size ≤ q
  rl : RdC 1 w2 A x.l.length c (x.l.map uv)
  rk : RdC 2 w2 B x.k.length d (kys x.k)
  al : ∀ ad, A = some ad → ad.block ∉ G
  bl : ∀ ad, B = some ad → ad.block ∉ G
theorem p1_mk {w W w2 : World} {a b : Nat} {F F2 G : List Nat} {es es2 : Is} {x : AnsI} {lv kw : Value} (hm : IkF w W a F es) (hr : Rk W b G es) (hd : ∀ q ∈ F, q ∉ G) (hi : ∀ q ∈ G, w.heap.size ≤ q)
    (ol : OwnN w2 W.heap.size lv x.l) (ok : OwnK w2 W.heap.size kw x.k) (m2 : IkF w w2 a F2 es2) (t2 : Tch F W w2) (f2 : ∀ q ∈ F2, q ∈ F ∨ W.heap.size ≤ q) :
    ∃ A B c d, lv = .slice A x.l.length c ∧ kw = .slice B x.k.length d ∧ P1 w w2 a b F2 G es es2 x A B c d := by
  obtain ⟨A, c, rfl, rl⟩ := ol.rd
  obtain ⟨B, d, rfl, rk⟩ := ok.rd
  refine ⟨A, B, c, d, rfl, rfl, m2, hr.tch t2 (fun q hq h => hd q h hq), fun q hq hg => ?_, hi, rl, rk, fun ad had hg => ?_, fun ad had hg => ?_⟩
  · have := hr.lts q hg
    rcases f2 q hq with h | h
    · exact hd q h hg
    · omega
  · have h1 := (OwnC.lt ol ad.block (by rw [had]; rfl)).1
    have := hr.lts _ hg
    omega
  · have h1 := (OwnC.lt ok ad.block (by rw [had]; rfl)).1
    have := hr.lts _ hg
    omega
/-- Behind what is meant. -/
structure P2 (w w3 : World) (a b : Nat) (F G : List Nat) (es2 : Is) (x : AnsI) (A B C D : Option Addr) (c d g h : Nat) : Prop where
  m : IkF w w3 a F es2
  r : Rk w3 b G es2
  dis : ∀ q ∈ F, q ∉ G
  hi : ∀ q ∈ G, w.heap.size ≤ q
  r1 : RdC 1 w3 A x.l.length c (x.l.map uv)
  r2 : RdC 2 w3 B x.k.length d (kys x.k)
  r3 : RdC 1 w3 C x.l.length g (x.l.map uv)
  r4 : RdC 2 w3 D x.k.length h (kys x.k)
theorem p2_mk {w w2 w3 : World} {a b : Nat} {F G G3 : List Nat} {es es2 : Is} {x : AnsI} {A B : Option Addr} {c d : Nat} {lv kw : Value} (p : P1 w w2 a b F G es es2 x A B c d)
    (ol : OwnN w3 w2.heap.size lv x.l) (ok : OwnK w3 w2.heap.size kw x.k) (r3 : Rk w3 b G3 es2) (t3 : Tch G w2 w3) (f3 : ∀ q ∈ G3, q ∈ G ∨ w2.heap.size ≤ q) :
    ∃ C D g h, lv = .slice C x.l.length g ∧ kw = .slice D x.k.length h ∧ P2 w w3 a b F G3 es2 x A B C D c d g h := by
  obtain ⟨C, g, rfl, rl⟩ := ol.rd
  obtain ⟨D, h, rfl, rk⟩ := ok.rd
  refine ⟨C, D, g, h, rfl, rfl, ⟨p.m.old.trans (t3.below p.m.old.size p.hi), p.m.is.tch t3 p.dis, p.m.hi, p.m.good⟩, r3, fun q hq hg => ?_, fun q hg => ?_, p.rl.tch t3 p.al, p.rk.tch t3 p.bl, rl, rk⟩
  · rcases f3 q hg with h | h
    · exact p.dis q hq h
    · have := p.m.is.lts q hq
      omega
  · rcases f3 q hg with h | h
    · exact p.hi q h
    · have := p.m.old.size
      omega
theorem P2.below {w w3 w4 : World} {a b : Nat} {F G : List Nat} {es2 : Is} {x : AnsI} {A B C D : Option Addr} {c d g h : Nat} (p : P2 w w3 a b F G es2 x A B C D c d g h) (hb : Below w3.heap.size w3 w4) : P2 w w4 a b F G es2 x A B C D c d g h :=
  ⟨p.m.below hb, p.r.below hb, p.dis, p.hi, p.r1.below hb, p.r2.below hb, p.r3.below hb, p.r4.below hb⟩
/-- The cells of what is to be done. -/
theorem oat_tch {w w' : World} {F : List Nat} {b o : Nat} {d : OpI} (h : OAt w b o d) (ht : Tch F w w') (hb : b ∉ F) : OAt w' b o d := ⟨ht.cell h.1 hb, ht.cell h.2.1 hb, ht.cell h.2.2.1 hb, ht.cell h.2.2.2.1 hb, ht.cell h.2.2.2.2 hb⟩

set_option maxRecDepth 100000 in
set_option maxHeartbeats 4000000 in
theorem iplays_calls (A : Option Addr) (c : Nat) (ops : List OpI) (w : World) (ho : RdO w A c ops) :
    Calls Try.prog 3 #[.slice A ops.length c] w fun e w' => e = .returned (.bool true) ∧ Below w.heap.size w w' := by
  have HO := Lib.hid ho.1
  have HOK := Lib.hid ho.2
  have hlc := ho.1.2.1
  have hmx := ho.1.2.2.1
  obtain ⟨N, hN⟩ : ∃ N, ops.length = N := ⟨_, rfl⟩
  rw [hN] at HO hlc ⊢
  have HN := Lib.hid hN
  clear ho hN
  cases hv : vastL ops with
  | true =>
    have HV := Lib.hid hv
    clear hv
    go_enter Try.func3, Try.ntmps3
    go_wp2_with fail
    refine (vast_any A N c ops HV.out _ HO.out).mono ?_
    rintro e w1 ⟨rfl, rfl⟩
    go_wp2_with fail
    refine (works_calls _).mono ?_
    rintro e w2 ⟨rfl, b2⟩
    have B2 := Lib.hid b2
    clear b2
    go_wp2_with fail
    go_ret
    exact ⟨rfl, B2.out⟩
  | false =>
    have HV := Lib.hid hv
    clear hv
    go_enter Try.func3, Try.ntmps3
    go_wp2_with fail
    refine (vast_any A N c ops HV.out _ HO.out).mono ?_
    rintro e w1 ⟨rfl, rfl⟩
    go_wp2_with fail
    refine (if_new w w (Below.refl _ _)).mono ?_
    rintro e w1 ⟨rfl, m1, -⟩
    have M1 := Lib.hid m1
    clear m1
    obtain ⟨a, ha⟩ : ∃ a, w.heap.size + 1 = a := ⟨_, rfl⟩
    rw [ha] at M1 ⊢
    clear ha
    go_wp2_with fail
    refine (rnewI_calls w1).mono ?_
    rintro e w2 ⟨rfl, r2, b2⟩
    have R2 := Lib.hid r2
    have M2 := Lib.hid (M1.out.below b2)
    have D2 := Lib.hid (show ∀ x ∈ [w.heap.size, a], x ∉ [w1.heap.size] from fun x hx hx2 => by
      have := M1.out.is.lts x hx
      simp at hx2
      omega)
    have L2 := Lib.hid (show ∀ x ∈ [w1.heap.size], w.heap.size ≤ x from fun x hx => by
      have := M1.out.old.size
      simp at hx
      omega)
    obtain ⟨b, hb⟩ : ∃ b, w1.heap.size = b := ⟨_, rfl⟩
    rw [hb] at R2 D2 L2 ⊢
    clear r2 b2 hb M1
    go_wp2_with fail
    go_loopw [5] (fun i wr => ∃ (q : Nat) (F G : List Nat) (es : Is), q ≤ N ∧ i = .int .i64 q ∧ IkF w wr a F es ∧ Rk wr b G es ∧ Hid (∀ x ∈ F, x ∉ G) ∧ Hid (∀ x ∈ G, w.heap.size ≤ x)) (fun i _ => N - (intOf i).toNat)
    case atStart => exact ⟨0, _, _, _, by omega, rfl, M2.out, R2.out, D2, L2⟩
    case round =>
      obtain ⟨q, F, G, es, hq, rfl, hm, hr, HD, HL⟩ := hrel
      have HM := Lib.hid hm
      have HR := Lib.hid hr
      clear hm hr
      by_cases hqN : q < N
      · have hql : q < ops.length := by rw [HN.out]; exact hqN
        have hqN' : (q : Int) < N := by omega
        obtain ⟨b0, o0, e, g0, g1, g2, g3, g4⟩ := op_at (HO.out.below HM.out.old) q hql
        subst e
        have hok := HOK.out _ (List.getElem_mem hql)
        obtain ⟨d, hd⟩ : ∃ d, ops[q] = d := ⟨_, rfl⟩
        rw [hd] at g0 g1 g2 g3 g4 hok
        have HOKd := Lib.hid hok
        have HDD := Lib.hid hd
        clear hd hok
        obtain ⟨x, es2, hdo⟩ : ∃ x es2, doI es d = (x, es2) := by
          cases h : doI es d with
          | mk x e2 => exact ⟨x, e2, rfl⟩
        have HDO := Lib.hid hdo
        clear hdo
        have hb0 : b0 < w.heap.size := by
          obtain ⟨b1, o1, e, y0, _⟩ := op_at HO.out q hql
          cases e
          exact cell_lt y0
        have HBF := Lib.hid (show b0 ∉ F from fun h => by have := HM.out.hi b0 h; omega)
        have HBG := Lib.hid (show b0 ∉ G from fun h => by have := HL.out b0 h; omega)
        have HOA := Lib.hid (show OAt wr b0 (o0 + q * 5) d from ⟨g0, g1, g2, g3, g4⟩)
        clear hb0 HDD
        go_wp2_with fail
        go_region_held3 (fun W' => W'.cell? ⟨b0, o0 + q * 5, none⟩ = some (.int .i64 d.K) ∧ W'.cell? ⟨b0, o0 + q * 5 + 1, none⟩ = some (.int .u32 d.id) ∧ W'.cell? ⟨b0, o0 + q * 5 + 2, none⟩ = some (.int .u32 d.last) ∧ W'.cell? ⟨b0, o0 + q * 5 + 3, none⟩ = some (.int .i64 d.k.h) ∧ W'.cell? ⟨b0, o0 + q * 5 + 4, none⟩ = some (.string ⟨d.k.t.toArray⟩)) (go_keep)
          (first
            | (go_at_call 14; refine (does_calls (HM.out.below (below_drew _)) HOKd.out HDO.out).mono ?_; rintro e w2 ⟨F2, lv, kw, rfl, ol, ok, m2, t2, f2, -, -⟩; obtain ⟨A2, B2, c2, d2, rfl, rfl, p1⟩ := p1_mk (HM.out.below (below_drew _)) (HR.out.below (below_drew _)) HD.out HL.out ol ok m2 t2 f2; have HP1 := Lib.hid p1; obtain ⟨y0, y1, y2, y3, y4⟩ := oat_tch HOA.out t2.of_drew HBF.out; have HOA2 := Lib.hid (show OAt w2 b0 (o0 + q * 5) d from ⟨y0, y1, y2, y3, y4⟩); clear ol ok m2 t2 f2 p1 g0 g1 g2 g3 g4; simp only [tdv])
            | (go_at_call 15; refine (meant_calls HP1.out.r HM.out.good HOKd.out HDO.out).mono ?_; rintro e w3 ⟨G3, lv, kw, rfl, ol, ok, r3, t3, f3⟩; obtain ⟨C2, D2, gg, hh, rfl, rfl, p2⟩ := p2_mk HP1.out ol ok r3 t3 f3; have HP2 := Lib.hid p2; obtain ⟨z0, z1, z2, z3, z4⟩ := oat_tch HOA2.out t3 HBG.out; clear ol ok r3 t3 f3 p2; simp only [tdv])
            | (go_at_call 13; refine (same_calls x A2 B2 C2 D2 c2 d2 gg hh _ HP2.out.r1 HP2.out.r2 HP2.out.r3 HP2.out.r4).mono ?_; rintro e w4 ⟨rfl, b4⟩; have HP4 := Lib.hid (HP2.out.below b4); have s0 := stays_ b4 z0; have s1 := stays_ b4 z1; have s2 := stays_ b4 z2; have s3 := stays_ b4 z3; have s4 := stays_ b4 z4; clear b4)
            | (go_at_call 16; refine (if_count HP4.out.m).mono ?_; rintro e w5 ⟨rfl, rfl⟩)
            | (go_at_call 17; refine (rcount_calls b _ es2 _ HP4.out.r).mono ?_; rintro e w5 ⟨rfl, rfl⟩))
        all_goals
          go_wp2_with fail
          exact ⟨⟨q + 1, F2, G3, es2, by omega, by go_num, HP4.out.m, HP4.out.r, Lib.hid HP4.out.dis, Lib.hid HP4.out.hi⟩, by simp [intOf]; omega⟩
      · obtain rfl : q = N := by omega
        go_wp2_with fail
        refine (works_calls _).mono ?_
        rintro e w7 ⟨rfl, b7⟩
        have B7 := Lib.hid (below_then HM.out.old HM.out.old.size b7)
        clear b7
        go_wp2_with fail
        go_ret
        exact ⟨rfl, B7.out⟩
theorem iplays_row {w : World} (A : Option Addr) (c : Nat) (ops : List OpI) (ho : RdO w A c ops) :
    Calls Try.prog 3 #[.slice A ops.length c] w fun e w' => e = .returned (.bool true) ∧ Below w.heap.size w w' := iplays_calls A c ops w ho
end Go.Proofs.Ytafmhpcfjmannaa

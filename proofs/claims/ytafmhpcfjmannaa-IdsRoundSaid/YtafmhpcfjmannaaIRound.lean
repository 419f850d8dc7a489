import Derived.Test.YtafmhpcfjmannaaIRnd
import Derived.Deep.RegionHeld3
import Derived.StillTailTactics
set_option linter.unusedVariables false
set_option linter.unusedSimpArgs false
namespace Go.Proofs.Ytafmhpcfjmannaa
open Go.RowKit

/-- Two rows of numbers, that were made since. -/
structure P3 (w w2 : World) (a b : Nat) (F G : List Nat) (es es2 : Is) : Prop where
  m : IkF w w2 a F es
  r : IkF w w2 b G es2
  dis : ∀ q ∈ F, q ∉ G
theorem P3.below {w w3 w4 : World} {a b : Nat} {F G : List Nat} {es es2 : Is} (p : P3 w w3 a b F G es es2) (hb : Below w3.heap.size w3 w4) : P3 w w4 a b F G es es2 := ⟨p.m.below hb, p.r.below hb, p.dis⟩
theorem P3.one {w W w2 : World} {a b : Nat} {F F2 G : List Nat} {es es2 es3 : Is} (p : P3 w W a b F G es es2) (m2 : IkF w w2 a F2 es3) (t2 : Tch F W w2) (f2 : ∀ q ∈ F2, q ∈ F ∨ W.heap.size ≤ q) : P3 w w2 a b F2 G es3 es2 :=
  ⟨m2, ⟨m2.old, p.r.is.tch t2 (fun q hq h => p.dis q h hq), p.r.hi, p.r.good⟩, fun q hq hg => by
    have := p.r.is.lts q hg
    rcases f2 q hq with h | h
    · exact p.dis q h hg
    · omega⟩
theorem P3.two {w W w2 : World} {a b : Nat} {F G G2 : List Nat} {es es2 es3 : Is} (p : P3 w W a b F G es es2) (m2 : IkF w w2 b G2 es3) (t2 : Tch G W w2) (f2 : ∀ q ∈ G2, q ∈ G ∨ W.heap.size ≤ q) : P3 w w2 a b F G2 es es3 :=
  ⟨⟨m2.old, p.m.is.tch t2 (fun q hq h => p.dis q hq h), p.m.hi, p.m.good⟩, m2, fun q hq hg => by
    have := p.m.is.lts q hq
    rcases f2 q hg with h | h
    · exact p.dis q hq h
    · omega⟩
theorem P3.tch {w W w2 : World} {a b : Nat} {F G X : List Nat} {es es2 : Is} (p : P3 w W a b F G es es2) (t : Tch X W w2) (hX : ∀ q ∈ X, w.heap.size ≤ q ∧ q ∉ F ∧ q ∉ G) : P3 w w2 a b F G es es2 :=
  ⟨⟨p.m.old.trans (t.below p.m.old.size (fun q hq => (hX q hq).1)), p.m.is.tch t (fun q hq h => (hX q h).2.1 hq), p.m.hi, p.m.good⟩, ⟨p.m.old.trans (t.below p.m.old.size (fun q hq => (hX q hq).1)), p.r.is.tch t (fun q hq h => (hX q h).2.2 hq), p.r.hi, p.r.good⟩, p.dis⟩

theorem do_lk {es es' : Is} {d : OpI} {x : AnsI} (r : doI es d = (x, es')) : x.l = [] ∨ x.k = [] := by
  unfold doI at r
  repeat' split at r
  all_goals (cases r; first | exact .inl rfl | exact .inr rfl)
theorem RdC.nil_any {sz : Nat} {w w' : World} {A : Option Addr} {n c : Nat} {cs : List Value} (h : RdC sz w A n c cs) (hc : cs = []) : RdC sz w' A n c cs := by
  obtain ⟨h1, h2, h3, h4, h5, h6⟩ := h
  subst hc
  exact ⟨h1, h2, h3, h4, h5, fun ad ha j u hj => by simp at hj⟩
def xw (j : Nat) (X : List Nat) : List Nat := if j = 0 then [] else X
theorem xw_sub (j : Nat) (X : List Nat) : ∀ k ∈ xw j X, k ∈ X := by
  unfold xw
  split
  · intro k hk; cases hk
  · exact fun k hk => hk
theorem oat_tch {w w' : World} {F : List Nat} {b o : Nat} {d : OpI} (h : OAt w b o d) (ht : Tch F w w') (hb : b ∉ F) : OAt w' b o d := ⟨ht.cell h.1 hb, ht.cell h.2.1 hb, ht.cell h.2.2.1 hb, ht.cell h.2.2.2.1 hb, ht.cell h.2.2.2.2 hb⟩
theorem oat_new (w : World) (d : OpI) : OAt (w.alloc (.cells #[.int .i64 d.K, .int .u32 d.id, .int .u32 d.last, .int .i64 d.k.h, .string ⟨d.k.t.toArray⟩] 40)) w.heap.size 0 d := by
  have h := heap_alloc_new w (.cells #[.int .i64 d.K, .int .u32 d.id, .int .u32 d.last, .int .i64 d.k.h, .string ⟨d.k.t.toArray⟩] 40)
  exact ⟨cell_of_heap (l := opc d) h 0 _ rfl, cell_of_heap (l := opc d) h 1 _ rfl, cell_of_heap (l := opc d) h 2 _ rfl, cell_of_heap (l := opc d) h 3 _ rfl, cell_of_heap (l := opc d) h 4 _ rfl⟩
/-- The numbers, when j of them are moved back. -/
def backL (s : Nat) (l : List Nat) (j : Nat) : List Nat := l.take j ++ (l.map (mv s)).drop j
theorem backL_len (s : Nat) (l : List Nat) (j : Nat) (hj : j ≤ l.length) : (backL s l j).length = l.length := by simp [backL]; omega
theorem backL_zero (s : Nat) (l : List Nat) : backL s l 0 = l.map (mv s) := by simp [backL]
theorem backL_all (s : Nat) (l : List Nat) : backL s l l.length = l := by simp [backL]
theorem backL_at (s : Nat) (l : List Nat) (j : Nat) (hj : j < l.length) : (backL s l j)[j]? = some (mv s l[j]) ∧ (backL s l j).set j l[j] = backL s l (j + 1) := by
  have hd : (l.map (mv s)).drop j = mv s l[j] :: (l.map (mv s)).drop (j + 1) := by
    rw [List.drop_eq_getElem_cons (by simpa using hj), List.getElem_map]
  have ht : (l.take j).length = j := by simp; omega
  refine ⟨?_, ?_⟩
  · rw [backL, List.getElem?_append_right (by omega), ht, hd]
    simp
  · rw [backL, backL, hd, List.set_append_right _ _ (by omega), ht, Nat.sub_self, List.set_cons_zero, List.take_succ_eq_append_getElem hj, List.append_assoc]
    rfl

theorem same_any (x : AnsI) (xi : Bool) (n : Nat) (A B C D : Option Addr) (c d g h : Nat) (w : World) (hi : x.is = xi) (hn : x.l.length = n) (h1 : RdC 1 w A x.l.length c (x.l.map uv)) (h2 : RdC 2 w B x.k.length d (kys x.k)) (h3 : RdC 1 w C n g (x.l.map uv)) (h4 : RdC 2 w D x.k.length h (kys x.k)) :
    Calls Try.prog 13 #[.agg #[.int .i64 x.e, .slice A n c, .slice B x.k.length d, .int .u32 x.n, .bool xi], .agg #[.int .i64 x.e, .slice C n g, .slice D x.k.length h, .int .u32 x.n, .bool xi]] w fun e w' => e = .returned (.bool true) ∧ Below w.heap.size w w' := by
  subst hi hn
  exact same_calls x A B C D c d g h w h1 h2 h3 h4
set_option maxRecDepth 100000 in
set_option maxHeartbeats 4000000 in
theorem iround_calls (A : Option Addr) (c : Nat) (ops : List OpI) (s : Nat) (w : World) (ho : RdO w A c ops) (hs : s < 4294967296) :
    Calls Try.prog 5 #[.slice A ops.length c, .int .u32 s] w fun e w' => e = .returned (.bool true) ∧ Below w.heap.size w w' := by
  have HO := Lib.hid ho.1
  have HOK := Lib.hid ho.2
  have hlc := ho.1.2.1
  have hmx := ho.1.2.2.1
  obtain ⟨N, hN⟩ : ∃ N, ops.length = N := ⟨_, rfl⟩
  rw [hN] at HO hlc ⊢
  have HN := Lib.hid hN
  clear ho hN
  cases hv : vastL ops with
  | true =>
    have HV := Lib.hid hv
    clear hv
    go_enter Try.func5, Try.ntmps5
    go_wp2_with fail
    refine (vast_any A N c ops HV.out _ HO.out).mono ?_
    rintro e w1 ⟨rfl, rfl⟩
    go_wp2_with fail
    refine (works_calls _).mono ?_
    rintro e w2 ⟨rfl, b2⟩
    have B2 := Lib.hid b2
    clear b2
    go_wp2_with fail
    go_ret
    exact ⟨rfl, B2.out⟩
  | false =>
    have HV := Lib.hid hv
    clear hv
    go_enter Try.func5, Try.ntmps5
    go_wp2_with fail
    refine (vast_any A N c ops HV.out _ HO.out).mono ?_
    rintro e w1 ⟨rfl, rfl⟩
    go_wp2_with fail
    refine (if_new w w (Below.refl _ _)).mono ?_
    rintro e w1 ⟨rfl, m1, -⟩
    have M1 := Lib.hid m1
    clear m1
    obtain ⟨a, ha⟩ : ∃ a, w.heap.size + 1 = a := ⟨_, rfl⟩
    rw [ha] at M1 ⊢
    clear ha
    go_wp2_with fail
    refine (if_new w w1 M1.out.old).mono ?_
    rintro e w2 ⟨rfl, r2, b2⟩
    have PP := Lib.hid (show P3 w w2 a (w1.heap.size + 1) [w.heap.size, a] [w1.heap.size, w1.heap.size + 1] [] (shI s []) from ⟨M1.out.below b2, r2, fun x hx hx2 => by
      have := M1.out.is.lts x hx
      simp at hx2
      omega⟩)
    obtain ⟨b, hb⟩ : ∃ b, w1.heap.size + 1 = b := ⟨_, rfl⟩
    rw [hb] at PP ⊢
    clear r2 b2 hb M1
    go_wp2_with fail
    go_loopw [7, 8, 9, 10, 11] (fun i _ _ _ _ wr => ∃ (q : Nat) (F G : List Nat) (es : Is), q ≤ N ∧ i = .int .i64 q ∧ P3 w wr a b F G es (shI s es)) (fun i _ _ _ _ _ => N - (intOf i).toNat)
    case atStart => exact ⟨0, _, _, _, by omega, rfl, PP.out⟩
    case round =>
      obtain ⟨q, F, G, es, hq, rfl, hp⟩ := hrel
      have HP := Lib.hid hp
      clear hp
      by_cases hqN : q < N
      · have hql : q < ops.length := by rw [HN.out]; exact hqN
        have hqN' : (q : Int) < N := by omega
        obtain ⟨b0, o0, e, g0, g1, g2, g3, g4⟩ := op_at (HO.out.below HP.out.m.old) q hql
        subst e
        have hok := HOK.out _ (List.getElem_mem hql)
        obtain ⟨d, hd⟩ : ∃ d, ops[q] = d := ⟨_, rfl⟩
        rw [hd] at g0 g1 g2 g3 g4 hok
        have HOKd := Lib.hid hok
        obtain ⟨x, es2, hdo⟩ : ∃ x es2, doI es d = (x, es2) := by
          cases h : doI es d with
          | mk x e2 => exact ⟨x, e2, rfl⟩
        have HDO := Lib.hid hdo
        have HDS := Lib.hid (sh_do hs HP.out.m.good hok hdo)
        have HSM := Lib.hid (small_do HP.out.m.good hdo)
        have hb0 : b0 < w.heap.size := by
          obtain ⟨b1, o1, e, y0, _⟩ := op_at HO.out q hql
          cases e
          exact cell_lt y0
        have hb0r : b0 < wr.heap.size := cell_lt g0
        have HB0 := Lib.hid hb0
        have HOA := Lib.hid (show OAt wr b0 (o0 + q * 5) d from ⟨g0, g1, g2, g3, g4⟩)
        have HOK2 := Lib.hid (show OkI (shD s d) from ⟨mv_lt _ _, mv_lt _ _⟩)
        clear hok hd hdo hb0
        go_wp2_with fail
        rw [mv_walk, mv_walk]
        have bl1 := below_alloc wr (.cells #[.int .i64 d.K, .int .u32 (mv s d.id : Nat), .int .u32 (mv s d.last : Nat), .int .i64 d.k.h, .string ⟨d.k.t.toArray⟩] 40)
        have P1 := Lib.hid (HP.out.below bl1)
        have O1 := Lib.hid (oat_new wr (shD s d))
        have HBF := Lib.hid (show b0 ∉ F ∧ wr.heap.size ∉ F ∧ b0 ∉ G ∧ wr.heap.size ∉ G from ⟨fun h => by have := HP.out.m.hi b0 h; have := HB0.out; omega, fun h => by have := HP.out.m.is.lts _ h; omega, fun h => by have := HP.out.r.hi b0 h; have := HB0.out; omega, fun h => by have := HP.out.r.is.lts _ h; omega⟩)
        have HOB := Lib.hid (show OAt (wr.alloc (.cells #[.int .i64 d.K, .int .u32 (mv s d.id : Nat), .int .u32 (mv s d.last : Nat), .int .i64 d.k.h, .string ⟨d.k.t.toArray⟩] 40)) b0 (o0 + q * 5) d from oat_tch HOA.out (Tch.of_below [] bl1) (by simp))
        clear bl1 g0 g1 g2 g3 g4
        refine (does_calls P1.out.m HOKd.out HDO.out).mono ?_
        rintro e w2 ⟨F2, lv, kw, rfl, ol, ok, m2, t2, f2, -, -⟩
        have P2 := Lib.hid (P1.out.one m2 t2 f2)
        have O2 := Lib.hid (oat_tch O1.out t2 HBF.out.2.1)
        have OB2 := Lib.hid (oat_tch HOB.out t2 HBF.out.1)
        have hsz2 : wr.heap.size < w2.heap.size := by have := t2.size; simp at this; omega
        obtain ⟨A2, c2, rfl, rl2⟩ := ol.rd
        obtain ⟨B2, d2, rfl, rk2⟩ := ok.rd
        have AL2 := Lib.hid (show ∀ ad, A2 = some ad → wr.heap.size + 1 ≤ ad.block ∧ ad.block < w2.heap.size from fun ad had => by have := OwnC.lt ol ad.block (by rw [had]; rfl); simpa using this)
        have BL2 := Lib.hid (show ∀ ad, B2 = some ad → wr.heap.size + 1 ≤ ad.block ∧ ad.block < w2.heap.size from fun ad had => by have := OwnC.lt ok ad.block (by rw [had]; rfl); simpa using this)
        have RL2 := Lib.hid rl2
        have RK2 := Lib.hid rk2
        have HGS := Lib.hid (show ∀ x ∈ G, x < wr.heap.size from HP.out.r.is.lts)
        clear ol ok m2 t2 f2 rl2 rk2 P1 O1 HOB
        simp only [tdv]
        obtain ⟨y0, y1, y2, y3, y4⟩ := O2.out
        simp only [shD, Nat.zero_add] at y0 y1 y2 y3 y4
        go_wp2_with fail
        have bl3 := below_alloc w2 (.cells #[.int .i64 x.e, .slice A2 x.l.length c2, .slice B2 x.k.length d2, .int .u32 x.n, .bool x.is] 35)
        have BX3 := Lib.hid (BoxV.new w2 (.int .i64 x.e) (.slice A2 x.l.length c2) (.slice B2 x.k.length d2) (.int .u32 x.n) (.bool x.is))
        refine (does_calls (P2.out.below bl3).r HOK2.out HDS.out).mono ?_
        rintro e w3 ⟨G3, lv, kw, rfl, ol, ok, m3, t3, f3, of3, okf3⟩
        have hg2 : w2.heap.size ∉ G := fun h => by have := HGS.out _ h; omega
        have P4 := Lib.hid ((P2.out.below bl3).two m3 t3 f3)
        have BX4 := Lib.hid (BX3.out.tch t3 hg2)
        have OB3 := Lib.hid (oat_tch (oat_tch OB2.out (Tch.of_below [] bl3) (by simp)) t3 HBF.out.2.2.1)
        have RL3 := Lib.hid ((RL2.out.below bl3).tch t3 (fun ad had h => by have := (AL2.out ad had).1; have := HGS.out _ h; omega))
        have RK3 := Lib.hid ((RK2.out.below bl3).tch t3 (fun ad had h => by have := (BL2.out ad had).1; have := HGS.out _ h; omega))
        have hsz3 : w2.heap.size < w3.heap.size := by have := t3.size; simp at this; omega
        obtain ⟨x', hx'⟩ : ∃ x', shA s d x = x' := ⟨_, rfl⟩
        have hxe : x'.e = x.e ∧ x'.l = x.l.map (mv s) ∧ x'.k = x.k ∧ x'.is = x.is ∧ x'.n = if x.is = true ∧ d.K = 3 then mv s x.n else x.n := by subst hx'; exact ⟨rfl, rfl, rfl, rfl, rfl⟩
        rw [hx'] at ol ok
        obtain ⟨xe, xl, xk, xn, xi⟩ := x'
        simp only at hxe ol ok
        obtain ⟨rfl, rfl, rfl, rfl, hxn⟩ := hxe
        rw [hx']
        have HXN := Lib.hid hxn
        obtain ⟨nl, hnl⟩ : ∃ nl, x.l.length = nl := ⟨_, rfl⟩
        have HNL := Lib.hid hnl
        unfold OwnN at ol
        obtain ⟨A5, c5, hlv⟩ := ol.slice
        subst hlv
        obtain ⟨B5, d5, rfl, rk5⟩ := ok.rd
        have RK5 := Lib.hid rk5
        rw [List.length_map, hnl] at ol of3 ⊢
        have hl512 : nl ≤ 512 := by have := HSM.out.2.2; omega
        have hnc := ol.rd
        obtain ⟨_, _, ee, rr⟩ := hnc
        cases ee
        have hnc1 := rr.2.1
        have hnc2 := rr.2.2.1
        have OF5 := Lib.hid (show ∀ g, (Value.slice A5 nl c5).ownBlock = some g → w2.heap.size + 1 ≤ g ∧ g < w3.heap.size ∧ g ∉ G3 from fun g hg => by have := ol.lt g hg; simp at this; exact ⟨this.1, this.2, of3 g hg⟩)
        have BF5 := Lib.hid (show ∀ g, (Value.slice B5 x.k.length d5).ownBlock = some g → w2.heap.size + 1 ≤ g ∧ g < w3.heap.size from fun g hg => by have := OwnC.lt ok g hg; simpa using this)
        have OL5 := Lib.hid ol
        have PG3 := Lib.hid (show ∀ g ∈ G3, g < w3.heap.size from m3.is.lts)
        have PF2 := Lib.hid (show ∀ g ∈ F2, g < w2.heap.size from P2.out.m.is.lts)
        clear ol ok m3 t3 f3 of3 okf3 bl3 y0 y1 y2 y3 y4 rk5 rr hnl hx' hxn P2 O2 OB2 RL2 RK2 HGS BX3 hg2
        simp only [tdv]
        go_wp2_with fail
        refine forget (fun W => Below w3.heap.size w3 W ∧ BoxV W w3.heap.size (.int .i64 x.e) (.slice A5 nl c5) (.slice B5 x.k.length d5) (.int .u32 xn) (.bool x.is) ∧ w3.heap.size < W.heap.size) ⟨below_alloc w3 _, BoxV.new w3 _ _ _ _ _, by simp⟩ ?_
        rintro W4 ⟨b4, bx4, hsz4⟩
        have B4 := Lib.hid b4
        have BX5 := Lib.hid bx4
        have BX6 := Lib.hid (BX4.out.below b4)
        have OL6 := Lib.hid (OL5.out.below b4)
        have P5 := Lib.hid (P4.out.below b4)
        obtain ⟨X, hX⟩ : ∃ X, (Value.slice A5 nl c5).ownBlock.toList = X := ⟨_, rfl⟩
        have HX := Lib.hid (show ∀ g ∈ X, w2.heap.size + 1 ≤ g ∧ g < w3.heap.size ∧ g ∉ G3 from fun g hg => OF5.out g (by rw [← hX] at hg; simpa using hg))
        have HXE := Lib.hid hX
        clear b4 bx4 hX OL5 P4 BX4
        go_loopw [11] (fun u wi => ∃ j : Nat, j ≤ nl ∧ u = .int .i64 j ∧ OwnC 33 1 (fun _ => True) wi (w2.heap.size + 1) (.slice A5 nl c5) nl ((backL s x.l j).map uv) ∧ Tch (xw j X) W4 wi) (fun u _ => nl - (intOf u).toNat)
        case atStart => exact ⟨0, by omega, rfl, by rw [backL_zero]; exact OL6.out.base (by simp), Tch.refl _ _⟩
        case round =>
          obtain ⟨j, hj, rfl, hoi, hti'⟩ := hrel
          have hti := hti'.mono (xw_sub j X)
          have HTJ := Lib.hid hti'
          clear hti'
          have HOI := Lib.hid hoi
          have HTI := Lib.hid hti
          obtain ⟨wi, rfl⟩ : ∃ wi : World, wi = wr := ⟨_, rfl⟩
          have bx5 := BX5.out.tch hti (fun h => by have := (HX.out _ h).2.1; omega)
          have BXi := Lib.hid bx5
          obtain ⟨p0, p1, p2, p3, p4, p5⟩ := bx5.cells
          clear hoi hti bx5
          by_cases hjn : j < nl
          · have hjn' : (j : Int) < nl := by omega
            obtain ⟨g, cp, e, hg, hgl, hcp⟩ := HOI.out.form (by omega)
            cases e
            have hbt := backL_at s x.l j (by rw [HNL.out]; exact hjn)
            obtain ⟨y, hy⟩ : ∃ y, x.l[j]'(by rw [HNL.out]; exact hjn) = y := ⟨_, rfl⟩
            have hys : y < 4294967296 := by rw [← hy]; exact HSM.out.1 _ (List.getElem_mem _)
            rw [hy] at hbt
            obtain ⟨z0, z1⟩ := HOI.out.cell_at j (uv (mv s y)) (by rw [List.getElem?_map, hbt.1]; rfl)
            have hbk := mv_back hs hys
            have HBT := Lib.hid hbt.2
            unfold uv at z0
            clear hbt hy
            go_wp2_with fail
            go_still_tail 11, (by kernel_rfl)
            change wpList _ _ _ _ _ wi.drew
            go_wp2_with fail
            refine ⟨⟨j + 1, by omega, by go_num, ?_, ?_⟩, by simp [intOf]; omega⟩
            · have := OwnC.set_cell (HOI.out.drew) j (by omega) (uv y) rfl
              rw [← List.map_set, HBT.out] at this
              exact this
            · exact HTI.out.drew.setCell _ (.inl (by rw [← HXE.out]; simp [Value.ownBlock]))
          · obtain rfl : j = nl := by omega
            have RL6 := Lib.hid (show RdC 1 wi A5 j c5 (x.l.map uv) from by
              obtain ⟨_, _, ee, rr⟩ := HOI.out.rd
              cases ee
              rw [← HNL.out, backL_all] at rr
              rw [← HNL.out]
              exact rr)
            have X1 := Lib.hid (show ∀ ad, A2 = some ad → ad.block ∉ X from fun ad had h => by have := (AL2.out ad had).2; have := (HX.out _ h).1; omega)
            have X2 := Lib.hid (show ∀ ad, B2 = some ad → ad.block ∉ X from fun ad had h => by have := (BL2.out ad had).2; have := (HX.out _ h).1; omega)
            have bxa := BX6.out.tch HTI.out (fun h => by have := (HX.out _ h).1; omega)
            have BXA := Lib.hid bxa
            obtain ⟨o1, o2, o3, o4, o5⟩ := oat_tch (oat_tch OB3.out (Tch.of_below [] B4.out) (by simp)) HTI.out (fun h => by have := (HX.out _ h).1; have := HB0.out; omega)
            have S1 := Lib.hid ((RL3.out.below B4.out).tch HTI.out X1.out)
            have S2 := Lib.hid ((RK3.out.below B4.out).tch HTI.out X2.out)
            have S4 := Lib.hid (show RdC 2 wi B5 x.k.length d5 (kys x.k) from by
              rcases do_lk HDO.out with h | h
              · have hj0 : j = 0 := by rw [← HNL.out, h]; rfl
                have ht := HTJ.out
                rw [hj0] at ht
                exact (RK5.out.below B4.out).tch ht (fun ad had hh => by cases hh)
              · exact RK5.out.nil_any (by rw [h]; rfl))
            have P6 := Lib.hid (P5.out.tch HTI.out (fun g hg => by
              have h1 := HX.out g hg
              refine ⟨by have := HB0.out; have := HP.out.m.old.size; omega, fun hF => ?_, h1.2.2⟩
              have := PF2.out g hF
              omega))
            have PX := Lib.hid (show w.heap.size ≤ w3.heap.size ∧ w3.heap.size ∉ F2 ∧ w3.heap.size ∉ G3 from ⟨by have := HP.out.m.old.size; omega, fun h => by have := PF2.out _ h; omega, fun h => Nat.lt_irrefl _ (PG3.out _ h)⟩)
            have hxl : x.l.length = j := HNL.out
            rw [hxl] at bxa
            obtain ⟨a0, a1, a2, a3, a4, a5⟩ := bxa.cells
            have hxl2 := Lib.hid hxl
            clear bxa hxl
            have hni : (x.is = true ∧ d.K = 3 ∧ xn = mv s x.n) ∨ (x.is = false ∧ xn = x.n) ∨ (x.is = true ∧ d.K ≠ 3 ∧ xn = x.n) := by
              have h := HXN.out
              cases hx : x.is
              · rw [hx] at h
                exact .inr (.inl ⟨rfl, by simpa using h⟩)
              · by_cases hk : d.K = 3
                · rw [hx, if_pos ⟨rfl, hk⟩] at h
                  exact .inl ⟨rfl, hk, h⟩
                · rw [if_neg (fun h => hk h.2)] at h
                  exact .inr (.inr ⟨rfl, hk, h⟩)
            have HNI := Lib.hid hni
            clear hni
            rcases HNI.out with ⟨h1, h2, h3⟩ | ⟨h1, h3⟩ | ⟨h1, h2, h3⟩
            · have hbk := mv_back hs HSM.out.2.1
              subst h3
              have e3 : (d.K == 3) = true := by rw [ibeq]; exact decide_eq_true h2
              have H1 := Lib.hid h1
              rw [h1] at p4 a4
              clear h1 h2
              go_upto_region 19 with fail
              refine forget (fun W => BoxV W w3.heap.size (.int .i64 x.e) (.slice A5 j c5) (.slice B5 x.k.length d5) (.int .u32 x.n) (.bool true) ∧ BoxV W w2.heap.size (.int .i64 x.e) (.slice A2 j c2) (.slice B2 x.k.length d2) (.int .u32 x.n) (.bool true) ∧ Tch [w3.heap.size] wi W) ⟨?_, ?_, ((Tch.refl _ wi).setCell _ (by simp))⟩ ?_
              · have := BXi.out
                rw [H1.out] at this
                exact heap_set_same (l := [.int .i64 x.e, .slice A5 j c5, .slice B5 x.k.length d5, .int .u32 (mv s x.n : Nat), .bool true]) this 3 (.int .u32 x.n)
              · have := BXA.out
                rw [H1.out, hxl2.out] at this
                exact this.off (by omega)
              rintro W6 ⟨ba, bb, t6⟩
              obtain ⟨p0, p1, p2, p3, p4, p5⟩ := ba.cells
              obtain ⟨r0, r1, r2, r3, r4, r5⟩ := bb.cells
              have T6 := Lib.hid t6
              have s1 := (S1.out.tch t6 (fun ad had h => by have := (AL2.out ad had).2; simp at h; omega))
              have s2 := (S2.out.tch t6 (fun ad had h => by have := (BL2.out ad had).2; simp at h; omega))
              have s3 := (RL6.out.tch t6 (fun ad had h => by have := (OF5.out ad.block (by rw [had]; rfl)).2.1; simp at h; omega))
              have s4 := (S4.out.tch t6 (fun ad had h => by have := (BF5.out ad.block (by rw [had]; rfl)).2; simp at h; omega))
              have SA := Lib.hid s1
              have SB := Lib.hid s2
              have SC := Lib.hid s3
              have SD := Lib.hid s4
              have P7 := Lib.hid (P6.out.tch t6 (fun q hq => by
                simp at hq
                subst hq
                exact PX.out))
              clear ba bb t6 s1 s2 s3 s4
              go_wp2_with fail
              refine (same_any x true j A2 B2 A5 B5 c2 d2 c5 d5 _ H1.out hxl2.out SA.out SB.out SC.out SD.out).mono ?_
              rintro e w9 ⟨rfl, b9⟩
              have P9 := Lib.hid (P7.out.below b9)
              clear b9
              go_wp2_with fail
              exact ⟨⟨q + 1, F2, G3, es2, by omega, by go_num, P9.out⟩, by simp [intOf]; omega⟩
            · subst h3
              have H1 := Lib.hid h1
              rw [h1] at p4 a4
              clear h1
              go_upto_region 19 with fail
              refine forget (fun W => BoxV W w3.heap.size (.int .i64 x.e) (.slice A5 j c5) (.slice B5 x.k.length d5) (.int .u32 x.n) (.bool false) ∧ BoxV W w2.heap.size (.int .i64 x.e) (.slice A2 j c2) (.slice B2 x.k.length d2) (.int .u32 x.n) (.bool false) ∧ Tch [w3.heap.size] wi W) ⟨?_, ?_, Tch.refl _ _⟩ ?_
              · have := BXi.out
                rw [H1.out] at this
                exact this
              · have := BXA.out
                rw [H1.out, hxl2.out] at this
                exact this
              rintro W6 ⟨ba, bb, t6⟩
              obtain ⟨p0, p1, p2, p3, p4, p5⟩ := ba.cells
              obtain ⟨r0, r1, r2, r3, r4, r5⟩ := bb.cells
              have T6 := Lib.hid t6
              have s1 := (S1.out.tch t6 (fun ad had h => by have := (AL2.out ad had).2; simp at h; omega))
              have s2 := (S2.out.tch t6 (fun ad had h => by have := (BL2.out ad had).2; simp at h; omega))
              have s3 := (RL6.out.tch t6 (fun ad had h => by have := (OF5.out ad.block (by rw [had]; rfl)).2.1; simp at h; omega))
              have s4 := (S4.out.tch t6 (fun ad had h => by have := (BF5.out ad.block (by rw [had]; rfl)).2; simp at h; omega))
              have SA := Lib.hid s1
              have SB := Lib.hid s2
              have SC := Lib.hid s3
              have SD := Lib.hid s4
              have P7 := Lib.hid (P6.out.tch t6 (fun q hq => by
                simp at hq
                subst hq
                exact PX.out))
              clear ba bb t6 s1 s2 s3 s4
              go_wp2_with fail
              refine (same_any x false j A2 B2 A5 B5 c2 d2 c5 d5 _ H1.out hxl2.out SA.out SB.out SC.out SD.out).mono ?_
              rintro e w9 ⟨rfl, b9⟩
              have P9 := Lib.hid (P7.out.below b9)
              clear b9
              go_wp2_with fail
              exact ⟨⟨q + 1, F2, G3, es2, by omega, by go_num, P9.out⟩, by simp [intOf]; omega⟩
            · subst h3
              have e3 : (d.K == 3) = false := by rw [ibeq]; exact decide_eq_false h2
              have H1 := Lib.hid h1
              rw [h1] at p4 a4
              clear h1
              go_upto_region 19 with fail
              refine forget (fun W => BoxV W w3.heap.size (.int .i64 x.e) (.slice A5 j c5) (.slice B5 x.k.length d5) (.int .u32 x.n) (.bool true) ∧ BoxV W w2.heap.size (.int .i64 x.e) (.slice A2 j c2) (.slice B2 x.k.length d2) (.int .u32 x.n) (.bool true) ∧ Tch [w3.heap.size] wi W) ⟨?_, ?_, Tch.refl _ _⟩ ?_
              · have := BXi.out
                rw [H1.out] at this
                exact this
              · have := BXA.out
                rw [H1.out, hxl2.out] at this
                exact this
              rintro W6 ⟨ba, bb, t6⟩
              obtain ⟨p0, p1, p2, p3, p4, p5⟩ := ba.cells
              obtain ⟨r0, r1, r2, r3, r4, r5⟩ := bb.cells
              have T6 := Lib.hid t6
              have s1 := (S1.out.tch t6 (fun ad had h => by have := (AL2.out ad had).2; simp at h; omega))
              have s2 := (S2.out.tch t6 (fun ad had h => by have := (BL2.out ad had).2; simp at h; omega))
              have s3 := (RL6.out.tch t6 (fun ad had h => by have := (OF5.out ad.block (by rw [had]; rfl)).2.1; simp at h; omega))
              have s4 := (S4.out.tch t6 (fun ad had h => by have := (BF5.out ad.block (by rw [had]; rfl)).2; simp at h; omega))
              have SA := Lib.hid s1
              have SB := Lib.hid s2
              have SC := Lib.hid s3
              have SD := Lib.hid s4
              have P7 := Lib.hid (P6.out.tch t6 (fun q hq => by
                simp at hq
                subst hq
                exact PX.out))
              clear ba bb t6 s1 s2 s3 s4
              go_wp2_with fail
              refine (same_any x true j A2 B2 A5 B5 c2 d2 c5 d5 _ H1.out hxl2.out SA.out SB.out SC.out SD.out).mono ?_
              rintro e w9 ⟨rfl, b9⟩
              have P9 := Lib.hid (P7.out.below b9)
              clear b9
              go_wp2_with fail
              exact ⟨⟨q + 1, F2, G3, es2, by omega, by go_num, P9.out⟩, by simp [intOf]; omega⟩
      · obtain rfl : q = N := by omega
        go_wp2_with fail
        refine (works_calls _).mono ?_
        rintro e w7 ⟨rfl, b7⟩
        have B7 := Lib.hid (below_then HP.out.m.old HP.out.m.old.size b7)
        clear b7
        go_wp2_with fail
        go_ret
        exact ⟨rfl, B7.out⟩
theorem iround_row {w : World} (A : Option Addr) (c : Nat) (ops : List OpI) (ho : RdO w A c ops) (x : Int) (hx : (Lit.int .u32 x).wf = true) :
    Calls Try.prog 5 #[.slice A ops.length c, .int .u32 x] w fun e w' => e = .returned (.bool true) ∧ Below w.heap.size w w' := by
  have h1 := wf_u32 hx
  obtain ⟨a, rfl⟩ : ∃ a : Nat, x = a := ⟨x.toNat, by omega⟩
  exact iround_calls A c ops a w ho (by omega)
end Go.Proofs.Ytafmhpcfjmannaa

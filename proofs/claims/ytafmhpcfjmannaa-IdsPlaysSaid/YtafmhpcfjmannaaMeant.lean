import Derived.Test.YtafmhpcfjmannaaRk3
set_option linter.unusedVariables false
set_option linter.unusedSimpArgs false
namespace Go.Proofs.Ytafmhpcfjmannaa
open Go.RowKit

def KB (k : Ky) : Obj := .cells #[.int .i64 k.h, .string ⟨k.t.toArray⟩] 63
theorem keepU {F : List Nat} {w w2 : World} {X : Obj} {k : Ky} (hF : ∀ k ∈ F, k < w.heap.size) (ht : Tch F ((((w.alloc X).alloc TZ).alloc TZ).alloc (KB k)) w2) : BoxT w2 (w.heap.size + 1) tz ∧ BoxT w2 (w.heap.size + 1 + 1) tz ∧ w.heap.size + 1 + 1 + 1 < w2.heap.size := by
  have hsz := ht.size
  simp at hsz
  refine ⟨?_, ?_, by omega⟩
  · unfold BoxT
    rw [ht.block _ (by simp <;> omega) (fun hk => by have := hF _ hk; omega), heap_alloc_old _ _ (by simp <;> omega), heap_alloc_old _ _ (by simp)]
    have := heap_alloc_new (w.alloc X) TZ
    rwa [World.size_alloc] at this
  · unfold BoxT
    rw [ht.block _ (by simp <;> omega) (fun hk => by have := hF _ hk; omega), heap_alloc_old _ _ (by simp)]
    have := heap_alloc_new ((w.alloc X).alloc TZ) TZ
    rwa [World.size_alloc, World.size_alloc] at this
/-- What is to be known behind what is meant. -/
def MnP (x : AnsI) (w : World) (a : Nat) (F : List Nat) (es' : Is) (e : Ending) (w' : World) : Prop :=
  ∃ F' lv kw, e = .returned (tdv ⟨x.e, lv, kw, x.n, x.is⟩) ∧ OwnN w' w.heap.size lv x.l ∧ OwnK w' w.heap.size kw x.k ∧ Rk w' a F' es' ∧ Tch F w w' ∧ (∀ k ∈ F', k ∈ F ∨ w.heap.size ≤ k)
theorem mn_fin {w w2 w' : World} {a : Nat} {F F' : List Nat} {es' : Is} {x : AnsI} {lv kw v : Value} {X : Obj} {k : Ky} {b : Nat} (hv : v = tdv ⟨x.e, lv, kw, x.n, x.is⟩)
    (hm : Rk w2 a F' es') (hF : ∀ k ∈ F, k < w.heap.size) (t2 : Tch F ((((w.alloc X).alloc TZ).alloc TZ).alloc (KB k)) w2) (f2 : ∀ q ∈ F', q ∈ F ∨ ((((w.alloc X).alloc TZ).alloc TZ).alloc (KB k)).heap.size ≤ q)
    (hb : b = ((((w.alloc X).alloc TZ).alloc TZ).alloc (KB k)).heap.size) (hl : OwnN w2 b lv x.l) (hk : OwnK w2 b kw x.k) (t3 : Tch [w.heap.size + 1, w.heap.size + 1 + 1] w2 w') :
    MnP x w a F es' (.returned v) w' := by
  subst hb hv
  have hs : ((((w.alloc X).alloc TZ).alloc TZ).alloc (KB k)).heap.size = w.heap.size + 1 + 1 + 1 + 1 := by simp
  have t1 : Tch F w ((((w.alloc X).alloc TZ).alloc TZ).alloc (KB k)) := ((((Tch.refl F w).alloc _).alloc _).alloc _).alloc _
  have hne : ∀ k ∈ F', k ∉ [w.heap.size + 1, w.heap.size + 1 + 1] := fun k hk hm2 => by
    simp at hm2
    rcases f2 k hk with h | h
    · have := hF k h; omega
    · omega
  refine ⟨F', lv, kw, rfl, ?_, ?_, hm.tch t3 hne, (t1.trans_ t2).trans t3 (fun k hk => by simp at hk; right; omega), fun k hk => ?_⟩
  · exact OwnC.base ((hl.tch t3 (fun k hk hm2 => by have := (OwnC.lt hl k hk).1; simp at hm2; omega))) (by omega)
  · exact OwnC.base ((hk.tch t3 (fun k hk' hm2 => by have := (OwnC.lt hk k hk').1; simp at hm2; omega))) (by omega)
  · rcases f2 k hk with h | h
    · exact .inl h
    · right; omega
theorem mn_app {w2 wr X w' : World} {b j c : Nat} {B : Option Addr} {L : List Ky} {q : Ky} {v' v0 v1 v3 v4 : Value} (hbx : BoxV wr b v0 v1 (.slice B j c) v3 v4) (ht : Tch [b] w2 wr) (ho : OwnC 38 2 (fun _ => True) wr w2.heap.size (.slice B j c) j (kys L))
    (gw : X.grownBy w' (Value.slice B j c).ownBlock) (ow : OwnC 38 2 (fun _ => True) w' w2.heap.size v' (j + 1) (kys L ++ kcs q)) (hb : b < w2.heap.size) (tX : Tch [] wr X) :
    w'.cell? ⟨b, 2, none⟩ = some (.slice B j c) ∧ w'.frozen? ⟨b, 2, none⟩ = false ∧ Hid (BoxV (w'.setCell ⟨b, 2, none⟩ v') b v0 v1 v' v3 v4 ∧ OwnC 38 2 (fun _ => True) (w'.setCell ⟨b, 2, none⟩ v') w2.heap.size v' (j + 1) (kys L ++ kcs q) ∧ Tch [b] w2 (w'.setCell ⟨b, 2, none⟩ v')) := by
  have hbr := heap_lt hbx
  have hrow : ∀ k, (Value.slice B j c).ownBlock = some k → w2.heap.size ≤ k := fun k hk => (ho.lt k hk).1
  have hbw : BoxV w' b v0 v1 (.slice B j c) v3 v4 := by
    unfold BoxV
    rw [gw.block b (Nat.lt_of_lt_of_le hbr tX.size) (fun e => by have := hrow b e.symm; omega), tX.block b hbr (by simp)]
    exact hbx
  have t1 : Tch [b] w2 w' := (ht.trans tX (fun k hk => by cases hk)).grown gw (fun k hk => .inr (hrow k hk))
  refine ⟨hbw.cells.2.2.1, hbw.cells.2.2.2.2.2 2, Lib.hid ⟨?_, ow.keep fun k hk => Below.heap_setCell _ _ _ _ (fun e => by have := (ow.lt k hk).1; have e' : k = b := e; omega), t1.setCell _ (.inl (by simp))⟩⟩
  exact heap_set_same (l := [v0, v1, .slice B j c, v3, v4]) hbw 2 v'
theorem mn_fin2 {w w2 w' : World} {a : Nat} {F F' : List Nat} {es' : Is} {x : AnsI} {lv kw v : Value} {X : Obj} {k : Ky} (hv : v = tdv ⟨x.e, lv, kw, x.n, x.is⟩)
    (hm : Rk w2 a F' es') (hF : ∀ k ∈ F, k < w.heap.size) (t2 : Tch F ((((w.alloc X).alloc TZ).alloc TZ).alloc (KB k)) w2) (f2 : ∀ q ∈ F', q ∈ F ∨ ((((w.alloc X).alloc TZ).alloc TZ).alloc (KB k)).heap.size ≤ q)
    (hl : OwnN w' w.heap.size lv x.l) (hk : OwnK w' w.heap.size kw x.k) (t3 : Tch [w.heap.size + 1, w.heap.size + 1 + 1] w2 w') :
    MnP x w a F es' (.returned v) w' := by
  subst hv
  have hs : ((((w.alloc X).alloc TZ).alloc TZ).alloc (KB k)).heap.size = w.heap.size + 1 + 1 + 1 + 1 := by simp
  have t1 : Tch F w ((((w.alloc X).alloc TZ).alloc TZ).alloc (KB k)) := ((((Tch.refl F w).alloc _).alloc _).alloc _).alloc _
  have hne : ∀ k ∈ F', k ∉ [w.heap.size + 1, w.heap.size + 1 + 1] := fun k hk hm2 => by
    simp at hm2
    rcases f2 k hk with h | h
    · have := hF k h; omega
    · omega
  refine ⟨F', lv, kw, rfl, hl, hk, hm.tch t3 hne, (t1.trans_ t2).trans t3 (fun k hk => by simp at hk; right; omega), fun k hk => ?_⟩
  rcases f2 k hk with h | h
  · exact .inl h
  · right; omega
set_option maxRecDepth 100000 in
set_option maxHeartbeats 4000000 in
theorem meant_calls {w : World} {a : Nat} {F : List Nat} {es es' : Is} {d : OpI} {x : AnsI} (h : Rk w a F es) (g : GoodI es) (hd : OkI d) (r : doI es d = (x, es')) :
    Calls Try.prog 15 #[.pointer (some ⟨a, 0, none⟩), .agg #[.int .i64 d.K, .int .u32 d.id, .int .u32 d.last, .int .i64 d.k.h, .string ⟨d.k.t.toArray⟩]] w (MnP x w a F es') := by
  have HG := Lib.hid g
  obtain ⟨hd1, hd2⟩ := hd
  obtain ⟨K, i, l, kh, kt⟩ := d
  simp only at hd1 hd2 ⊢
  have hlen : es.length ≤ 1000000 := by have := g.few; omega
  have HLN := Lib.hid hlen
  have H3 := Lib.hid (show Rk ((((w.alloc (.cells #[.int .i64 K, .int .u32 i, .int .u32 l, .int .i64 kh, .string ⟨kt.toArray⟩] 40)).alloc TZ).alloc TZ).alloc (KB ⟨kh, kt⟩)) a F es from
    h.below ((((below_alloc w _).trans ((below_alloc _ _).mono (by simp))).trans ((below_alloc _ _).mono (by simp <;> omega))).trans ((below_alloc _ _).mono (by simp <;> omega))))
  have HF := Lib.hid h.lts
  have R := Lib.hid r
  clear h r g hlen
  by_cases k0 : K = 0
  · subst k0
    obtain ⟨n, e2, hp⟩ : ∃ n e2, putI es i ⟨kh, kt⟩ = (n, e2) := by
      cases h : putI es i ⟨kh, kt⟩ with
      | mk n e2 => exact ⟨n, e2, rfl⟩
    have HP := Lib.hid hp
    have r := R.out
    simp only [doI, if_true, hp] at r
    cases r
    clear hp
    go_enter Try.func15, Try.ntmps15
    go_wp2_with fail
    refine (rputI_calls a F es i ⟨kh, kt⟩ _ H3.out HLN.out HP.out).mono ?_
    rintro e w2 ⟨F2, rfl, m2, t2, f2⟩
    obtain ⟨k1, k2, hz⟩ := keepU HF.out t2
    obtain ⟨⟨p0, p1, p2, p3, p4⟩, p5⟩ := k1.out
    obtain ⟨⟨q0, q1, q2, q3, q4⟩, q5⟩ := k2.out
    simp only [tz] at p0 p1 p2 p3 p4 q0 q1 q2 q3 q4
    have hz1 : w.heap.size + 1 < w2.heap.size := by omega
    have hz2 : w.heap.size + 1 + 1 < w2.heap.size := by omega
    have K1 := Lib.hid k1
    have K2 := Lib.hid k2
    have M2 := Lib.hid m2
    have T2 := Lib.hid t2
    have F2' := Lib.hid f2
    clear m2 t2 f2 k1 k2
    go_wp2_with fail
    refine forgetX (fun W => BoxV W (w.heap.size + 1) (.int .i64 n) (.slice none 0 0) (.slice none 0 0) (.int .u32 0) (.bool false) ∧ Tch [w.heap.size + 1, w.heap.size + 1 + 1] w2 W) ⟨?_, ?_⟩ ?_
    · with_reducible refine (BoxV.off K1.out.vals ?_).set5 _ _ _ _ _
      omega
    · repeat (first | with_reducible exact Tch.refl _ _ | with_reducible refine Tch.setCell ?_ _ (by simp) | with_reducible refine Tch.alloc ?_ _)
    rintro W3 ⟨hbx, t3⟩
    exact bodyPost_ret (results_vals rfl rfl hbx) rfl (mn_fin (lv := (.slice none 0 0)) (kw := (.slice none 0 0)) (by simp [tdv]) (b := w.heap.size + 1 + 1 + 1 + 1) M2.out HF.out T2.out F2'.out (by simp) (nil_own _ _).1 (nil_own _ _).2.1 t3)
  have n0 : (K == 0) = false := by rw [ibeq, decide_eq_false k0]
  by_cases k1 : K = 1
  · subst k1
    obtain ⟨L, hL⟩ : ∃ L, rangeI es i l = L := ⟨_, rfl⟩
    have HL := Lib.hid hL
    have r := R.out
    simp only [doI, if_neg k0, if_true, hL] at r
    cases r
    clear hL
    go_enter Try.func15, Try.ntmps15
    go_wp2_with fail
    refine (rrangeI_calls a F es i l _ H3.out HLN.out hd1 hd2 HG.out.sm).mono ?_
    rintro e w2 ⟨v2, rfl, o2, b2⟩
    rw [HL.out] at o2
    obtain ⟨A2, c2, rfl⟩ := OwnC.slice o2
    have O2 := Lib.hid o2
    have t2 := Tch.of_below F b2
    have f2 : ∀ k ∈ F, k ∈ F ∨ ((((w.alloc (.cells #[.int .i64 1, .int .u32 i, .int .u32 l, .int .i64 kh, .string ⟨kt.toArray⟩] 40)).alloc TZ).alloc TZ).alloc (KB ⟨kh, kt⟩)).heap.size ≤ k := fun k hk => .inl hk
    have m2 := H3.out.below b2
    clear o2 b2
    obtain ⟨k1, k2, hz⟩ := keepU HF.out t2
    obtain ⟨⟨p0, p1, p2, p3, p4⟩, p5⟩ := k1.out
    obtain ⟨⟨q0, q1, q2, q3, q4⟩, q5⟩ := k2.out
    simp only [tz] at p0 p1 p2 p3 p4 q0 q1 q2 q3 q4
    have hz1 : w.heap.size + 1 < w2.heap.size := by omega
    have hz2 : w.heap.size + 1 + 1 < w2.heap.size := by omega
    have K1 := Lib.hid k1
    have K2 := Lib.hid k2
    have M2 := Lib.hid m2
    have T2 := Lib.hid t2
    have F2' := Lib.hid f2
    clear m2 t2 f2 k1 k2
    go_wp2_with fail
    refine forgetX (fun W => BoxV W (w.heap.size + 1) (.int .i64 0) (.slice A2 L.length c2) (.slice none 0 0) (.int .u32 0) (.bool false) ∧ Tch [w.heap.size + 1, w.heap.size + 1 + 1] w2 W) ⟨?_, ?_⟩ ?_
    · with_reducible refine (BoxV.off K1.out.vals ?_).set5 _ _ _ _ _
      omega
    · repeat (first | with_reducible exact Tch.refl _ _ | with_reducible refine Tch.setCell ?_ _ (by simp) | with_reducible refine Tch.alloc ?_ _)
    rintro W3 ⟨hbx, t3⟩
    exact bodyPost_ret (results_vals rfl rfl hbx) rfl (mn_fin (lv := (.slice A2 L.length c2)) (kw := (.slice none 0 0)) (by simp [tdv]) (b := w.heap.size + 1 + 1 + 1 + 1) M2.out HF.out T2.out F2'.out (by simp) (by have := O2.out; simpa [KB] using this) (nil_own _ _).2.1 t3)
  have n1 : (K == 1) = false := by rw [ibeq, decide_eq_false k1]
  by_cases k2 : K = 2
  · subst k2
    obtain ⟨⟨vh, vt⟩, b, hg⟩ : ∃ v b, getA es i = (v, b) := ⟨_, _, rfl⟩
    have HGA := Lib.hid hg
    have r := R.out
    simp only [doI, if_neg k0, if_neg k1, if_true, hg] at r
    cases r
    clear hg
    go_enter Try.func15, Try.ntmps15
    go_wp2_with fail
    refine (rgetI_calls a F es i _ H3.out HGA.out).mono ?_
    rintro e w2 ⟨rfl, b2⟩
    simp only
    have t2 := Tch.of_below F b2
    have f2 : ∀ k ∈ F, k ∈ F ∨ ((((w.alloc (.cells #[.int .i64 2, .int .u32 i, .int .u32 l, .int .i64 kh, .string ⟨kt.toArray⟩] 40)).alloc TZ).alloc TZ).alloc (KB ⟨kh, kt⟩)).heap.size ≤ k := fun k hk => .inl hk
    have m2 := H3.out.below b2
    have HLF := Lib.hid HF.out
    clear b2
    obtain ⟨k1, k2, hz⟩ := keepU HF.out t2
    have hz1 : w.heap.size + 1 < w2.heap.size := by omega
    have hz2 : w.heap.size + 1 + 1 < w2.heap.size := by omega
    have K1 := Lib.hid k1
    have K2 := Lib.hid k2
    have M2 := Lib.hid m2
    have T2 := Lib.hid t2
    have F2' := Lib.hid f2
    clear m2 t2 f2 k1 k2 hz1 hz2
    go_upto_region 10 with fail
    refine forget (fun W => KyAt W w2.heap.size 0 ⟨vh, vt⟩ ∧ BoxT W (w.heap.size + 1) tz ∧ BoxT W (w.heap.size + 1 + 1) tz ∧ Below w2.heap.size w2 W ∧ w2.heap.size < W.heap.size) ⟨KyAt.new w2 ⟨vh, vt⟩ _, (heap_alloc_old w2 _ (heap_lt K1.out)).trans K1.out, (heap_alloc_old w2 _ (heap_lt K2.out)).trans K2.out, below_alloc w2 _, by simp⟩ ?_
    rintro W ⟨⟨y0, y1⟩, k1, k2, bw, hzw⟩
    obtain ⟨⟨p0, p1, p2, p3, p4⟩, p5⟩ := k1.out
    obtain ⟨⟨q0, q1, q2, q3, q4⟩, q5⟩ := k2.out
    simp only [tz] at p0 p1 p2 p3 p4 q0 q1 q2 q3 q4
    have hz1 : w.heap.size + 1 < W.heap.size := by omega
    have hz2 : w.heap.size + 1 + 1 < W.heap.size := by omega
    have K1' := Lib.hid k1
    have BW := Lib.hid bw
    clear k1 k2 bw
    simp only [Nat.zero_add] at y0 y1
    go_wp2_with fail
    refine forgetX (fun W2 => BoxV W2 (w.heap.size + 1) (.int .i64 0) (.slice none 0 0) (.slice (some ⟨W.heap.size, 0, none⟩) 1 1) (.int .u32 0) (.bool b) ∧ Tch [w.heap.size + 1, w.heap.size + 1 + 1] W W2 ∧ W2.heap[W.heap.size]? = some (.cells #[.int .i64 vh, .string ⟨vt.toArray⟩] 38 (0, 0))) ⟨?_, ?_, ?_⟩ ?_
    · have hne : w.heap.size + 1 ≠ w.heap.size + 1 + 1 := by omega
      with_reducible exact BoxV.alloc (BoxV.set5 (BoxV.off (BoxV.off (BoxV.off (BoxV.off (BoxV.off K1'.out.vals hne) hne) hne) hne) hne) _ _ _ _ _) _
    · repeat (first | with_reducible exact Tch.refl _ _ | with_reducible refine Tch.setCell ?_ _ (by simp) | with_reducible refine Tch.alloc ?_ _)
    · exact own_last (by simp)
    rintro W3 ⟨hbx, t3, hk3⟩
    have hkn : OwnK W3 (w.heap.size + 1 + 1 + 1) (.slice (some ⟨W.heap.size, 0, none⟩) 1 1) [⟨vh, vt⟩] := ⟨rfl, kcs_one _, .inr ⟨W.heap.size, 1, [], rfl, by omega, hk3, by simp, Nat.le_refl _, by decide, by simp⟩⟩
    have hlw := HLF.out
    have tW : Tch F w ((((w.alloc (.cells #[.int .i64 2, .int .u32 i, .int .u32 l, .int .i64 kh, .string ⟨kt.toArray⟩] 40)).alloc TZ).alloc TZ).alloc (KB ⟨kh, kt⟩)) := ((((Tch.refl F w).alloc _).alloc _).alloc _).alloc _
    have hne : ∀ k ∈ F, k ∉ [w.heap.size + 1, w.heap.size + 1 + 1] := fun k hk hm2 => by
      have := hlw k hk
      simp at hm2
      omega
    refine bodyPost_ret (results_vals rfl rfl hbx) rfl ⟨F, .slice none 0 0, .slice (some ⟨W.heap.size, 0, none⟩) 1 1, by simp [tdv], OwnC.nil_, OwnC.base hkn (by omega), (M2.out.below BW.out).tch t3 hne, ?_, fun k hk => .inl hk⟩
    exact (((tW.trans_ T2.out).trans_ (Tch.of_below F BW.out))).trans t3 (fun k hk => by simp at hk; right; omega)
  have n2 : (K == 2) = false := by rw [ibeq, decide_eq_false k2]
  by_cases k3 : K = 3
  · subst k3
    obtain ⟨n, b, hg⟩ : ∃ n b, fndA es ⟨kh, kt⟩ = (n, b) := ⟨_, _, rfl⟩
    have HGA := Lib.hid hg
    have r := R.out
    simp only [doI, if_neg k0, if_neg k1, if_neg k2, if_true, hg] at r
    cases r
    clear hg
    go_enter Try.func15, Try.ntmps15
    go_wp2_with fail
    refine (rfindI_calls a F es ⟨kh, kt⟩ _ H3.out HGA.out).mono ?_
    rintro e w2 ⟨rfl, b2⟩
    have t2 := Tch.of_below F b2
    have f2 : ∀ k ∈ F, k ∈ F ∨ ((((w.alloc (.cells #[.int .i64 3, .int .u32 i, .int .u32 l, .int .i64 kh, .string ⟨kt.toArray⟩] 40)).alloc TZ).alloc TZ).alloc (KB ⟨kh, kt⟩)).heap.size ≤ k := fun k hk => .inl hk
    have m2 := H3.out.below b2
    clear b2
    obtain ⟨k1, k2, hz⟩ := keepU HF.out t2
    obtain ⟨⟨p0, p1, p2, p3, p4⟩, p5⟩ := k1.out
    obtain ⟨⟨q0, q1, q2, q3, q4⟩, q5⟩ := k2.out
    simp only [tz] at p0 p1 p2 p3 p4 q0 q1 q2 q3 q4
    have hz1 : w.heap.size + 1 < w2.heap.size := by omega
    have hz2 : w.heap.size + 1 + 1 < w2.heap.size := by omega
    have K1 := Lib.hid k1
    have K2 := Lib.hid k2
    have M2 := Lib.hid m2
    have T2 := Lib.hid t2
    have F2' := Lib.hid f2
    clear m2 t2 f2 k1 k2
    go_wp2_with fail
    refine forgetX (fun W => BoxV W (w.heap.size + 1) (.int .i64 0) (.slice none 0 0) (.slice none 0 0) (.int .u32 n) (.bool b) ∧ Tch [w.heap.size + 1, w.heap.size + 1 + 1] w2 W) ⟨?_, ?_⟩ ?_
    · with_reducible refine (BoxV.off (BoxV.off K1.out.vals ?_) ?_).set5 _ _ _ _ _
      all_goals omega
    · repeat (first | with_reducible exact Tch.refl _ _ | with_reducible refine Tch.setCell ?_ _ (by simp) | with_reducible refine Tch.alloc ?_ _)
    rintro W3 ⟨hbx, t3⟩
    exact bodyPost_ret (results_vals rfl rfl hbx) rfl (mn_fin (lv := (.slice none 0 0)) (kw := (.slice none 0 0)) (by simp [tdv]) (b := w.heap.size + 1 + 1 + 1 + 1) M2.out HF.out T2.out F2'.out (by simp) (nil_own _ _).1 (nil_own _ _).2.1 t3)
  have n3 : (K == 3) = false := by rw [ibeq, decide_eq_false k3]
  by_cases k4 : K = 4
  · subst k4
    obtain ⟨b, e2, hp⟩ : ∃ b e2, dropI es i = (b, e2) := by
      cases h : dropI es i with
      | mk n e2 => exact ⟨n, e2, rfl⟩
    have HP := Lib.hid hp
    have r := R.out
    simp only [doI, if_neg k0, if_neg k1, if_neg k2, if_neg k3, if_true, hp] at r
    cases r
    clear hp
    go_enter Try.func15, Try.ntmps15
    go_wp2_with fail
    refine (rdropI_calls a F es i _ H3.out HLN.out HP.out).mono ?_
    rintro e w2 ⟨F2, rfl, m2, t2, f2⟩
    obtain ⟨k1, k2, hz⟩ := keepU HF.out t2
    obtain ⟨⟨p0, p1, p2, p3, p4⟩, p5⟩ := k1.out
    obtain ⟨⟨q0, q1, q2, q3, q4⟩, q5⟩ := k2.out
    simp only [tz] at p0 p1 p2 p3 p4 q0 q1 q2 q3 q4
    have hz1 : w.heap.size + 1 < w2.heap.size := by omega
    have hz2 : w.heap.size + 1 + 1 < w2.heap.size := by omega
    have K1 := Lib.hid k1
    have K2 := Lib.hid k2
    have M2 := Lib.hid m2
    have T2 := Lib.hid t2
    have F2' := Lib.hid f2
    clear m2 t2 f2 k1 k2
    go_wp2_with fail
    refine forgetX (fun W => BoxV W (w.heap.size + 1) (.int .i64 0) (.slice none 0 0) (.slice none 0 0) (.int .u32 0) (.bool b) ∧ Tch [w.heap.size + 1, w.heap.size + 1 + 1] w2 W) ⟨?_, ?_⟩ ?_
    · with_reducible refine (BoxV.off K1.out.vals ?_).set5 _ _ _ _ _
      omega
    · repeat (first | with_reducible exact Tch.refl _ _ | with_reducible refine Tch.setCell ?_ _ (by simp) | with_reducible refine Tch.alloc ?_ _)
    rintro W3 ⟨hbx, t3⟩
    exact bodyPost_ret (results_vals rfl rfl hbx) rfl (mn_fin (lv := (.slice none 0 0)) (kw := (.slice none 0 0)) (by simp [tdv]) (b := w.heap.size + 1 + 1 + 1 + 1) M2.out HF.out T2.out F2'.out (by simp) (nil_own _ _).1 (nil_own _ _).2.1 t3)
  have n4 : (K == 4) = false := by rw [ibeq, decide_eq_false k4]
  by_cases k5 : K = 5
  · subst k5
    obtain ⟨gl, e2, hp⟩ : ∃ gl e2, leaveI es kh = (gl, e2) := by
      cases h : leaveI es kh with
      | mk n e2 => exact ⟨n, e2, rfl⟩
    have HP := Lib.hid hp
    have hgl : gl.length ≤ 1000000 := by
      have := leave_len es kh
      rw [hp] at this
      simp only at this
      have := HLN.out
      omega
    have HGL := Lib.hid hgl
    have r := R.out
    simp only [doI, if_neg k0, if_neg k1, if_neg k2, if_neg k3, if_neg k4, if_true, hp] at r
    cases r
    clear hp hgl
    go_enter Try.func15, Try.ntmps15
    go_wp2_with fail
    refine (rleaveI_calls a F es kh _ H3.out HLN.out HP.out).mono ?_
    rintro e w2 ⟨v2, F2, rfl, o2, m2, t2, f2⟩
    have o2' : OwnC 63 2 (fun _ => True) w2 (w.heap.size + 1 + 1 + 1 + 1) v2 gl.length (kys gl) := by simpa [KB] using o2
    obtain ⟨A2, c2, rfl, r2⟩ := o2'.rd
    have hg0 := r2.2.1
    have hg1 := r2.2.2.1
    have HOF := Lib.hid (show ∀ ad, A2 = some ad → w.heap.size + 1 + 1 + 1 + 1 ≤ ad.block from fun ad had => (o2'.lt ad.block (by rw [had]; rfl)).1)
    obtain ⟨N, hN⟩ : ∃ N, gl.length = N := ⟨_, rfl⟩
    rw [hN] at r2 hg0 ⊢
    have R2 := Lib.hid r2
    have HN := Lib.hid hN
    have hgl := HGL.out
    rw [hN] at hgl
    clear o2 o2' r2 hN
    obtain ⟨k1, k2, hz⟩ := keepU HF.out t2
    have hz1 : w.heap.size + 1 < w2.heap.size := by omega
    have hz2 : w.heap.size + 1 + 1 < w2.heap.size := by omega
    have K1 := Lib.hid k1
    have K2 := Lib.hid k2
    have M2 := Lib.hid m2
    have T2 := Lib.hid t2
    have F2' := Lib.hid f2
    clear m2 t2 f2 k1 k2
    obtain ⟨i0, hi, hzz0, hzz1, hzz2⟩ := info_parts Try.info_ky
    go_wp2_with fail
    go_loopw [10] (fun u wr => ∃ (j : Nat) (B : Option Addr) (c : Nat), j ≤ N ∧ u = .int .i64 j ∧ BoxV wr (w.heap.size + 1 + 1) (.int .i64 0) (.slice none 0 0) (.slice B j c) (.int .u32 0) (.bool false) ∧
      OwnC 38 2 (fun _ => True) wr w2.heap.size (.slice B j c) j (kys (gl.take j)) ∧ Tch [w.heap.size + 1 + 1] w2 wr) (fun u _ => N - (intOf u).toNat)
    case atStart => exact ⟨0, none, 0, by omega, rfl, K2.out, OwnC.nil_, Tch.refl _ _⟩
    case round =>
      obtain ⟨j, B, c, hj, rfl, hbx, ho, ht⟩ := hrel
      have HBX := Lib.hid hbx
      have HO := Lib.hid ho
      have HT := Lib.hid ht
      have hrd := ho.rd
      obtain ⟨A', c', e', r'⟩ := hrd
      cases e'
      have hj1 := r'.2.1
      have hj2 := r'.2.2.1
      have hszr := ht.size
      obtain ⟨q0, q1, q2, q3, q4, q5⟩ := hbx.cells
      have hz3 : w.heap.size + 1 + 1 < wr.heap.size := by omega
      clear hbx ho ht r'
      by_cases hjn : j < N
      · have hjn' : (j : Int) < N := by omega
        have hjl : j < gl.length := by rw [HN.out]; exact hjn
        obtain ⟨b3, o3, e, x0, x1⟩ := key_at (R2.out.tch HT.out (fun ad had hF => by have := HOF.out ad had; simp at hF; omega)) j hjl
        subst e
        have hb3 : b3 < wr.heap.size := cell_lt x0
        have hts : gl.take (j + 1) = gl.take j ++ [gl[j]] := List.take_succ_eq_append_getElem hjl
        obtain ⟨⟨gh, gt⟩, hgj⟩ : ∃ q, gl[j] = q := ⟨_, rfl⟩
        rw [hgj] at x0 x1 hts
        simp only at x0 x1
        have HTS := Lib.hid hts
        clear hts hgj
        go_wp2_with fail
        go_region_law (refine wp_appC _ (.tmp 85) (.tmp 97) 32 rfl w2.heap.size i0 _ 24 Try.underlying32 hi hzz0 hzz1 hzz2 rfl (by decide) (fun _ _ => trivial) (.slice B j c) j (kys (gl.take j)) rfl ?_ (some ⟨wr.heap.size, 0, none⟩) 1 1 (kcs ⟨gh, gt⟩) rfl ?_ ?_ ?_ ?_ ?_; (· repeat (first | exact HO.out | refine OwnC.alloc ?_ _ | refine OwnC.drew ?_)); (· first | exact rdc_box (kcs ⟨gh, gt⟩) 1 2 rfl (kcs_one _) (by decide) | exact (rdc_box (kcs ⟨gh, gt⟩) 1 2 rfl (kcs_one _) (by decide)).below (below_drew _)); (· omega); (· omega); (· simp; omega); (intro v' w' ow gw y1 y2; (try clear y1); obtain ⟨k0, k1, HFIN⟩ := mn_app HBX.out HT.out HO.out gw ow (by omega) (by repeat (first | exact Tch.refl _ _ | refine Tch.alloc ?_ _ | refine Tch.drew ?_)); obtain ⟨A5, c5, rfl⟩ := ow.slice; clear ow gw y2))
        all_goals
          go_wp2_with fail
          obtain ⟨f1, f2, f3⟩ := HFIN.out
          exact ⟨⟨j + 1, A5, c5, by omega, by go_num, f1, by rw [HTS.out, kys, List.flatMap_append]; exact f2, f3⟩, by simp [intOf]; omega⟩
      · obtain rfl : j = N := by omega
        have HOK := Lib.hid (show OwnK wr w2.heap.size (.slice B j c) gl by
          have := HO.out
          rw [← HN.out, List.take_length] at this
          unfold OwnK
          rw [← HN.out]
          exact this)
        have K1' := Lib.hid ((show BoxV w2 (w.heap.size + 1) _ _ _ _ _ from K1.out.vals).tch HT.out (by simp))
        obtain ⟨p0, p1, p2, p3, p4, p5⟩ := K1'.out.cells
        simp only [tz] at p0 p1 p2 p3 p4
        have hz4 : w.heap.size + 1 < wr.heap.size := by omega
        clear HO
        go_wp2_with fail
        refine forgetX (fun W => BoxV W (w.heap.size + 1) (.int .i64 0) (.slice none 0 0) (.slice B j c) (.int .u32 0) (.bool false) ∧ Tch [w.heap.size + 1, w.heap.size + 1 + 1] wr W) ⟨?_, ?_⟩ ?_
        · with_reducible exact K1'.out.set5 _ _ _ _ _
        · repeat (first | with_reducible exact Tch.refl _ _ | with_reducible refine Tch.setCell ?_ _ (by simp))
        rintro W3 ⟨hbx, t3⟩
        have t4 : Tch [w.heap.size + 1, w.heap.size + 1 + 1] w2 W3 := (HT.out.mono (G := [w.heap.size + 1, w.heap.size + 1 + 1]) (by simp)).trans_ t3
        refine bodyPost_ret (results_vals rfl rfl hbx) rfl (mn_fin2 (by simp [tdv]) M2.out HF.out T2.out F2'.out (OwnC.nil_) (OwnC.base ((HOK.out).tch t3 (fun k hk hm2 => by have := (OwnC.lt HOK.out k hk).1; simp at hm2; omega)) (by omega)) t4)
  have n5 : (K == 5) = false := by rw [ibeq, decide_eq_false k5]
  have r := R.out
  simp only [doI, if_neg k0, if_neg k1, if_neg k2, if_neg k3, if_neg k4, if_neg k5] at r
  cases r
  obtain ⟨k1', k2', hz⟩ := keepU (F := F) (k := ⟨kh, kt⟩) (X := .cells #[.int .i64 K, .int .u32 i, .int .u32 l, .int .i64 kh, .string ⟨kt.toArray⟩] 40) HF.out (Tch.refl _ _)
  have K1 := Lib.hid k1'
  clear k1' k2' hz
  go_enter Try.func15, Try.ntmps15
  go_wp2_with fail
  refine forgetX (fun W => BoxV W (w.heap.size + 1) (.int .i64 0) (.slice none 0 0) (.slice none 0 0) (.int .u32 0) (.bool false) ∧ Tch [w.heap.size + 1, w.heap.size + 1 + 1] ((((w.alloc (.cells #[.int .i64 K, .int .u32 i, .int .u32 l, .int .i64 kh, .string ⟨kt.toArray⟩] 40)).alloc TZ).alloc TZ).alloc (KB ⟨kh, kt⟩)) W) ⟨?_, ?_⟩ ?_
  · exact K1.out.vals
  · exact Tch.refl _ _
  rintro W3 ⟨hbx, t3⟩
  exact bodyPost_ret (results_vals rfl rfl hbx) rfl (mn_fin (lv := (.slice none 0 0)) (kw := (.slice none 0 0)) (by simp [tdv]) (b := w.heap.size + 1 + 1 + 1 + 1) H3.out HF.out (Tch.refl _ _) (fun k hk => .inl hk) (by simp) (nil_own _ _).1 (nil_own _ _).2.1 t3)
end Go.Proofs.Ytafmhpcfjmannaa

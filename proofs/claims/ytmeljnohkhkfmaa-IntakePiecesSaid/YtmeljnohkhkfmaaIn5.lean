import Derived.Test.YtmeljnohkhkfmaaIn4
set_option linter.unusedVariables false
set_option linter.unusedSimpArgs false
namespace Go.Proofs.Ytmeljnohkhkfmaa
open Go.RowKit

theorem fr_cases (l : List UInt8) (most : Nat) : fr l most = ⟨7, 0, 0, []⟩ ∨ fr l most = ⟨6, 0, 0, []⟩ ∨ ((fr l most).err = 0 ∧ (fr l most).n ≤ l.length ∧ 8 ≤ (fr l most).n) := by
  rcases fr_err l most with h | h | ⟨h1, h2, h3, h4, h5⟩
  · exact .inl h
  · exact .inr (.inl h)
  · exact .inr (.inr (by rw [h1]; exact ⟨rfl, h5, h2.1⟩))

/-- Behind the reading of a frame. -/
structure Fx (w W : World) (a : Nat) (F : List Nat) (most : Nat) (l : List UInt8) (ch : Nat) (body : List UInt8) (v : Value) (X : Nat) : Prop where
  i : In W a F most l 1
  k : FrB W w.heap.size 0 (.slice none 0 0)
  x : FrB W X ch v
  o : OwnB W (w.heap.size + 1) v body
  b : Below w.heap.size w W
  hx : w.heap.size < X
  ox : ∀ g, v.ownBlock = some g → g ≠ X
theorem fx_of {w w2 W : World} {a : Nat} {F : List Nat} {most ch base X : Nat} {l body : List UInt8} {v : Value} {o : Obj} (h : In w a F most l 1) (b2 : Below (w.alloc o).heap.size (w.alloc o) w2) (k : FrB w2 w.heap.size 0 (.slice none 0 0))
    (ow : OwnB w2 base v body) (t : Tch [X] w2 W) (x : FrB W X ch v) (hx : w.heap.size < X) (hb : w.heap.size + 1 ≤ base) (ox : ∀ g, v.ownBlock = some g → g ≠ X) : Fx w W a F most l ch body v X := by
  have b : Below w.heap.size w w2 := below_then (below_alloc w o) (by simp) b2
  refine ⟨(h.below b).tch t (fun k hk hm => ?_), k.tch t (by simp; omega), x, OwnC.base (OwnC.tch ow t (fun g hg hm => ox g hg (by simpa using hm))) hb, b.trans (t.below b.size (fun k hk => by simp at hk; omega)), hx, ox⟩
  have := h.lts k hk
  simp at hm
  omega
set_option maxHeartbeats 4000000 in
theorem iframe_calls {w : World} {a : Nat} {F : List Nat} {most : Nat} {l : List UInt8} (h : In w a F most l 1) :
    Calls Try.prog 41 #[.pointer (some ⟨a, 0, none⟩)] w (NxP (nextI most l 1) w a F most) := by
  have H := Lib.hid h
  obtain ⟨r0, hr0⟩ : ∃ r0, fr l most = r0 := ⟨_, rfl⟩
  have HRC := Lib.hid (fr_cases l most)
  rw [hr0] at HRC
  obtain ⟨r, hr⟩ : ∃ r, nextI most l 1 = r := ⟨_, rfl⟩
  have HR := Lib.hid (show r = if r0.err = 7 then ⟨0, 0, [], l, 1⟩ else if r0.err = 0 then ⟨2, r0.ch, r0.body, l.drop r0.n, 1⟩ else ⟨3, 0, [], [], 2⟩ by
    rw [← hr, nextI, if_neg (by decide), if_pos rfl, hr0])
  rw [hr]
  have HR0 := Lib.hid hr0
  obtain ⟨N, hN⟩ : ∃ N, l.length = N := ⟨_, rfl⟩
  have HN := Lib.hid hN
  have hlt := h.lt
  have hmost : most ≤ 4096 := h.ok.hi
  obtain ⟨A, c, -, -, hrd, ⟨c0, c1, -, -⟩, -, -⟩ := (h.below (below_alloc w (.cells #[.int .u16 0, .slice none 0 0] 39))).row
  rw [hN] at c1
  have HRD := Lib.hid hrd
  have hnc := hrd.len.1
  have hcm := hrd.len.2
  rw [hN] at hnc
  clear h hr0 hr hN hrd
  have n1 : ¬ w.heap.size + 1 = a := by omega
  have n2 : ¬ a = w.heap.size + 1 := by omega
  go_enter Try.func41, Try.ntmps41
  go_wp2_with fail
  go_region_held3 (fun W' => W'.cell? ⟨a, 0, none⟩ = some (.int .u32 most) ∧ W'.cell? ⟨a, 1, none⟩ = some (.slice A N c)) (go_keep)
    (first
      | (go_at_call 26; rw [← HN.out]; refine (read_calls A c l most _ (HRD.out.below (below_drew _)) (by omega)).mono ?_; rintro e w2 ⟨v, rfl, o2, b2⟩; rw [HR0.out] at o2 ⊢; obtain ⟨A2, c2, rfl⟩ := OwnC.slice o2; have O2 := Lib.hid (o2.base (show w.heap.size + 1 ≤ _ by simp)); have d0 := stays_ (below_of_drew b2) c0; have d1 := stays_ (below_of_drew b2) c1; have B2 := Lib.hid (below_of_drew b2); have K2 := Lib.hid (FrB.tch (FrB.new w 0 (.slice none 0 0)) (Tch.of_below [] B2.out) (by simp)); clear o2 b2; unfold frRet)
      | (go_at_call 26; rw [← HN.out]; refine (read_calls A c l most _ ((HRD.out.below (below_alloc _ _)).below (below_drew _)) (by omega)).mono ?_; rintro e w2 ⟨v, rfl, o2, b2⟩; rw [HR0.out] at o2 ⊢; obtain ⟨A2, c2, rfl⟩ := OwnC.slice o2; have O2 := Lib.hid (o2.base (show w.heap.size + 1 + 1 ≤ _ by simp)); have hb2 := below_then (below_alloc _ _) (by simp) (below_of_drew b2); have d0 := stays_ hb2 c0; have d1 := stays_ hb2 c1; have B2 := Lib.hid hb2; have K2 := Lib.hid (FrB.tch (FrB.new w 0 (.slice none 0 0)) (Tch.of_below [] B2.out) (by simp)); have e4 : FrB w2 (w.heap.size + 1) 0 (.slice none 0 0) := (by have := FrB.tch (FrB.new (w.alloc (.cells #[.int .u16 0, .slice none 0 0] 39)) 0 (.slice none 0 0)) (Tch.of_below [] (below_of_drew b2)) (by simp); exact (by simpa only [World.size_alloc] using this)); obtain ⟨e0, e1, e2⟩ := e4.cells; have hz2 : w.heap.size + 1 < w2.heap.size := heap_lt e4; have E4 := Lib.hid e4; clear o2 b2 hb2 e4; unfold frRet))
  all_goals
    clear n1 n2 c0 c1 d0 d1
    rename_i hHeld
    clear hHeld
    first
      | (refine forgetX (fun W => Fx w W a F most l r0.ch r0.body (.slice A2 r0.body.length c2) w2.heap.size) (fx_of H.out B2.out K2.out O2.out ((Tch.refl _ _).alloc _) (heap_last rfl) (heap_lt K2.out) (Nat.le_refl _) (fun g hg e => by have := (OwnB.lt O2.out g hg).2; omega)) ?_
         obtain ⟨X, hX⟩ : ∃ X, w2.heap.size = X := ⟨_, rfl⟩
         rw [hX]
         clear hX)
      | (refine forgetX (fun W => Fx w W a F most l r0.ch r0.body (.slice A2 r0.body.length c2) (w.heap.size + 1)) (fx_of H.out B2.out K2.out O2.out (((Tch.refl _ _).setCell _ (by simp)).setCell _ (by simp)) (E4.out.set2 rfl) (by omega) (by omega) (fun g hg e => by have := (OwnB.lt O2.out g hg).1; omega)) ?_
         obtain ⟨X, hX⟩ : ∃ X, w.heap.size + 1 = X := ⟨_, rfl⟩
         rw [hX]
         clear hX e0 e1 hz2)
    rintro W fx
    have FX := Lib.hid fx
    have AF := Lib.hid (show w.heap.size ∉ F from fun h => Nat.lt_irrefl _ (H.out.lts _ h))
    obtain ⟨q0, q1, q2⟩ := fx.k.cells
    have hzW : w.heap.size < W.heap.size := heap_lt fx.k
    clear fx K2 B2 O2
    have hs1 := FX.out.b.size
    rcases HRC.out with h0 | h0 | ⟨h0, h1, h2⟩
    · have he : r0.err = 7 := by rw [h0]
      have HE := Lib.hid he
      rw [he]
      clear h0 he
      go_wp2_with fail
      refine forgetX (fun W' => FrB W' w.heap.size 0 (.slice none 0 0) ∧ Tch [w.heap.size] W W') ⟨?_, ?_⟩ ?_
      · exact FX.out.k.set2 (ch' := 0) (show (0 : Int) = ((0 : Nat) : Int) from rfl)
      · repeat (first | with_reducible exact Tch.refl _ _ | with_reducible refine Tch.setCell ?_ _ (by simp))
      rintro W3 ⟨hf, t3⟩
      refine bodyPost_ret (results_fr (k := .int .u8 0) (i := 2) (t := 3) rfl rfl rfl hf) rfl ?_
      rw [HR.out, if_pos HE.out]
      exact nx_fin (r := ⟨0, 0, [], l, 1⟩) (base := w.heap.size) (F := F) FX.out.i (Tch.of_below F FX.out.b) (fun k hk => .inl hk) OwnB.nil_ (Nat.le_refl _) (Nat.le_refl _) AF.out (by simp [Value.ownBlock]) (by simp [Value.ownBlock]) t3 rfl rfl
    · have he : r0.err = 6 := by rw [h0]
      have HE := Lib.hid he
      rw [he]
      clear h0 he
      go_wp2_with fail
      refine (ispoil_calls FX.out.i).mono ?_
      rintro e w3 ⟨F2, v, rfl, o2, i2, t2, f2, v2⟩
      obtain ⟨A5, c5, rfl⟩ := OwnC.slice o2
      have K2 := Lib.hid (FX.out.k.tch t2 AF.out)
      clear q0 q1 q2
      obtain ⟨q0, q1, q2⟩ := K2.out.cells
      have hz2 : w.heap.size < w3.heap.size := heap_lt K2.out
      have HX := Lib.hid (And.intro o2 (And.intro i2 (And.intro t2 (And.intro f2 v2))))
      clear o2 i2 t2 f2 v2
      simp only [List.length_nil]
      go_wp2_with fail
      refine forgetX (fun W => FrB W w.heap.size 0 (.slice A5 0 c5) ∧ Tch [w.heap.size] w3 W) ⟨?_, ?_⟩ ?_
      · exact K2.out.set2 (ch' := 0) (show (0 : Int) = ((0 : Nat) : Int) from rfl)
      · repeat (first | with_reducible exact Tch.refl _ _ | with_reducible refine Tch.setCell ?_ _ (by simp))
      rintro W3 ⟨hf, t3⟩
      obtain ⟨o2, i2, t2, f2, v2⟩ := HX.out
      refine bodyPost_ret (results_fr (k := .int .u8 3) (i := 2) (t := 3) rfl rfl rfl hf) rfl ?_
      rw [HR.out, if_neg (by rw [HE.out]; decide), if_neg (by rw [HE.out]; decide)]
      refine nx_fin (r := ⟨3, 0, [], [], 2⟩) (base := w.heap.size) (F := F) i2 ((Tch.of_below F FX.out.b).trans_ t2) (fun k hk => (f2 k hk).imp id (fun h => by omega)) (o2.base (by omega)) (Nat.le_refl _) (Nat.le_refl _) (fun h => ?_) (fun g hg => ?_) v2 t3 rfl rfl
      · rcases f2 _ h with h | h
        · exact AF.out h
        · omega
      · have := (OwnB.lt o2 g hg).1
        omega
    · have HE := Lib.hid h0
      rw [h0]
      have H1 := Lib.hid h1
      clear h1 h2 h0
      go_wp2_with fail
      refine (idrop_calls FX.out.i rfl H1.out).mono ?_
      rintro e w3 ⟨F2, rfl, i2, t2, f2, g2⟩
      have hxw := FX.out.hx
      have hFw := H.out.lts
      have XF := Lib.hid (show X ∉ F from fun h => by have := hFw _ h; omega)
      have K2 := Lib.hid (FX.out.k.tch t2 AF.out)
      have X2 := Lib.hid (FX.out.x.tch t2 XF.out)
      clear q0 q1 q2 hFw
      obtain ⟨q0, q1, q2⟩ := K2.out.cells
      obtain ⟨x0, x1, x2⟩ := X2.out.cells
      have hz2 : w.heap.size < w3.heap.size := heap_lt K2.out
      have hz3 : X < w3.heap.size := heap_lt X2.out
      have O2 := Lib.hid (OwnC.tch FX.out.o t2 (fun g hg h => by have := (OwnB.lt FX.out.o g hg).1; have := H.out.lts _ h; omega))
      have V2 := Lib.hid (show ∀ g, (Value.slice A2 r0.body.length c2).ownBlock = some g → g ∉ F2 from fun g hg h => by
        have h3 := OwnB.lt FX.out.o g hg
        rcases g2 g h with h4 | h4
        · omega
        · omega)
      have HX := Lib.hid (And.intro i2 (And.intro t2 f2))
      clear i2 t2 f2 g2
      go_wp2_with fail
      go_region
      all_goals
        go_wp2_with fail
        refine forgetX (fun W => FrB W w.heap.size r0.ch (.slice A2 r0.body.length c2) ∧ Tch [w.heap.size] w3 W) ⟨?_, ?_⟩ ?_
        · first | exact K2.out.set2 rfl | exact (K2.out.set2 rfl)
        · repeat (first | with_reducible exact Tch.refl _ _ | with_reducible refine Tch.setCell ?_ _ (by simp) | with_reducible refine Tch.drew ?_)
        rintro W3 ⟨hf, t3⟩
        obtain ⟨i2, t2, f2⟩ := HX.out
        refine bodyPost_ret (results_fr (k := .int .u8 2) (i := 2) (t := 3) rfl rfl rfl hf) rfl ?_
        rw [HR.out, if_neg (by rw [HE.out]; decide), if_pos HE.out]
        refine nx_fin (r := ⟨2, r0.ch, r0.body, l.drop r0.n, 1⟩) (base := w.heap.size + 1) (F := F) i2 ((Tch.of_below F FX.out.b).trans_ t2) (fun k hk => (f2 k hk).imp id (fun h => by omega)) O2.out (by omega) (Nat.le_refl _) (fun h => ?_) (fun g hg => ?_) V2.out t3 rfl rfl
        · rcases f2 _ h with h | h
          · exact AF.out h
          · omega
        · have := (OwnB.lt O2.out g hg).1
          omega
end Go.Proofs.Ytmeljnohkhkfmaa

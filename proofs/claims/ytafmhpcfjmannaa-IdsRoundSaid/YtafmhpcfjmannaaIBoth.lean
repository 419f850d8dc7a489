import Derived.Test.YtafmhpcfjmannaaDoI
import Derived.Test.YtafmhpcfjmannaaOpenI
set_option linter.unusedVariables false
set_option linter.unusedSimpArgs false
namespace Go.Proofs.Ytafmhpcfjmannaa
open Go.RowKit

theorem getA_cases (es : Is) (i : Nat) : (∃ k, getA es i = (k, true) ∧ (i, k) ∈ es) ∨ (getA es i = (kz, false) ∧ geI es i = none) := by
  unfold getA
  cases h : geI es i with
  | none => exact .inr ⟨rfl, rfl⟩
  | some k => exact .inl ⟨k, rfl, geI_mem h⟩
theorem fndA_cases (es : Is) (k : Ky) : (∃ i, fndA es k = (i, true) ∧ (i, k) ∈ es) ∨ (fndA es k = (0, false) ∧ fiI es k = none) := by
  unfold fndA
  cases h : fiI es k with
  | none => exact .inr ⟨rfl, rfl⟩
  | some i => exact .inl ⟨i, rfl, fiI_mem h⟩
theorem get_of {es : Is} (h : GoodI es) {i : Nat} {k : Ky} (hm : (i, k) ∈ es) : getA es i = (k, true) := by
  have := geI_of_mem h.ids hm
  simp [getA, this]
theorem fnd_of {es : Is} (h : GoodI es) {i : Nat} {k : Ky} (hm : (i, k) ∈ es) : fndA es k = (i, true) := by
  rcases fndA_cases es k with ⟨j, h1, h2⟩ | ⟨_, h2⟩
  · rw [h1]
    obtain ⟨a, ha, hae⟩ := List.getElem_of_mem hm
    obtain ⟨b, hb, hbe⟩ := List.getElem_of_mem h2
    have e1 : (es.map (·.2))[a]'(by simpa using ha) = (es.map (·.2))[b]'(by simpa using hb) := by
      rw [List.getElem_map, List.getElem_map, hae, hbe]
    have := (List.getElem_inj h.kn).1 e1
    subst this
    rw [hae] at hbe
    cases hbe
    rfl
  · exact absurd rfl (fiI_none.1 h2 _ hm)
theorem leave_len (es : Is) (h : Int) : (leaveI es h).2.length + (leaveI es h).1.length = es.length := by
  simp only [leaveI, List.length_map]
  induction es with
  | nil => rfl
  | cons p es ih =>
    simp only [List.filter_cons, List.length_cons]
    by_cases hp : p.2.h = h
    · simp [hp] at ih ⊢; omega
    · simp [hp] at ih ⊢; omega
theorem leave_fnd (es : Is) (k : Ky) : ∃ n, fndA (leaveI es k.h).2 k = (n, false) := by
  refine ⟨0, ?_⟩
  have : fiI (leaveI es k.h).2 k = none := fiI_none.2 fun p hp e => by
    have := (List.mem_filter.1 hp).2
    rw [e] at this
    simp at this
  simp [fndA, this]
theorem leave_keys (es : Is) (h : Int) : ∀ k ∈ (leaveI es h).1, k.h = h := by
  intro k hk
  obtain ⟨p, hp, rfl⟩ := List.mem_map.1 hk
  simpa using (List.mem_filter.1 hp).2
theorem drop_get (es : Is) (i : Nat) : ∃ k, getA (dropI es i).2 i = (k, false) := by
  refine ⟨kz, ?_⟩
  have : geI (dropI es i).2 i = none := by
    unfold dropI
    split
    · rw [geI_rm]; simp
    · rename_i h
      simpa using h
  simp [getA, this]
theorem bel_dn {B : Nat} {w w' : World} (h : Below B w w') (n : Nat) : Below B w (w'.drewN n) := ⟨h.os, h.tape, h.output, h.size, h.block⟩
theorem OwnK.rd {w : World} {base : Nat} {v : Value} {l : List Ky} (h : OwnK w base v l) : ∃ A c, v = .slice A l.length c ∧ RdC 2 w A l.length c (kys l) := OwnC.rd h
theorem key_at {w : World} {A : Option Addr} {n c : Nat} {l : List Ky} (h : RdC 2 w A n c (kys l)) (i : Nat) (hi : i < l.length) : ∃ b o, A = some ⟨b, o, none⟩ ∧ w.cell? ⟨b, o + i * 2, none⟩ = some (.int .i64 (l[i]).h) ∧ w.cell? ⟨b, o + i * 2 + 1, none⟩ = some (.string ⟨(l[i]).t.toArray⟩) := by
  obtain ⟨b, o, e, hc⟩ := rec_at kcs (by decide) (fun _ => rfl) h i hi
  exact ⟨b, o, e, hc 0 _ rfl, hc 1 _ rfl⟩

set_option maxRecDepth 100000 in
set_option maxHeartbeats 4000000 in
theorem iboth_calls (A : Option Addr) (c : Nat) (ops : List OpI) (id : Nat) (k : Ky) (w : World) (ho : RdO w A c ops) (hid : id < 4294967296) :
    Calls Try.prog 6 #[.slice A ops.length c, .int .u32 id, .agg #[.int .i64 k.h, .string ⟨k.t.toArray⟩]] w fun e w' => e = .returned (.bool true) ∧ Below w.heap.size w w' := by
  have HO := Lib.hid ho.1
  have HOK := Lib.hid ho.2
  have hlc := ho.1.2.1
  have hmx := ho.1.2.2.1
  obtain ⟨N, hN⟩ : ∃ N, ops.length = N := ⟨_, rfl⟩
  rw [hN] at HO hlc ⊢
  have HN := Lib.hid hN
  clear ho hN
  cases hv : vastL ops with
  | true =>
    have HV := Lib.hid hv
    clear hv
    go_enter Try.func6, Try.ntmps6
    go_wp2_with fail
    refine (vast_any A N c ops HV.out _ (HO.out.below (below_alloc w _))).mono ?_
    rintro e w1 ⟨rfl, rfl⟩
    go_wp2_with fail
    refine (works_calls _).mono ?_
    rintro e w2 ⟨rfl, b2⟩
    have B2 := Lib.hid (below_then (below_alloc w _) (by simp) b2)
    clear b2
    go_wp2_with fail
    go_ret
    exact ⟨rfl, B2.out⟩
  | false =>
    have HV := Lib.hid hv
    clear hv
    by_cases hbig : 1024 < k.t.length
    · have e1 : decide ((1024 : Int) < k.t.length) = true := decide_eq_true (by omega)
      go_enter Try.func6, Try.ntmps6
      go_wp2_with fail
      refine (vast_any A N c ops HV.out _ (HO.out.below (below_alloc w _))).mono ?_
      rintro e w1 ⟨rfl, rfl⟩
      go_wp2_with fail
      refine (works_calls _).mono ?_
      rintro e w2 ⟨rfl, b2⟩
      have B2 := Lib.hid (below_then (below_alloc w _) (by simp) b2)
      clear b2
      go_wp2_with fail
      go_ret
      exact ⟨rfl, B2.out⟩
    have e1 : decide ((1024 : Int) < k.t.length) = false := decide_eq_false (by omega)
    clear hbig
    go_enter Try.func6, Try.ntmps6
    go_wp2_with fail
    refine (vast_any A N c ops HV.out _ (HO.out.below (below_alloc w _))).mono ?_
    rintro e w1 ⟨rfl, rfl⟩
    go_wp2_with fail
    refine (if_new w _ (below_alloc w _)).mono ?_
    rintro e w1 ⟨rfl, m1, b1⟩
    have M1 := Lib.hid m1
    have KB := Lib.hid ((KyAt.new w k 38).below b1)
    have hsz : w.heap.size < w1.heap.size := by have := b1.size; simp at this; omega
    have B1 := Lib.hid (below_then (below_alloc w _) (by simp) b1)
    have HF1 := Lib.hid (show ∀ x ∈ [(w.alloc (.cells #[.int .i64 k.h, .string ⟨k.t.toArray⟩] 38)).heap.size, (w.alloc (.cells #[.int .i64 k.h, .string ⟨k.t.toArray⟩] 38)).heap.size + 1], w.heap.size < x from fun x hx => by simp at hx; omega)
    simp only [World.size_alloc] at HF1 M1 ⊢
    obtain ⟨a, ha⟩ : ∃ a, w.heap.size + 1 + 1 = a := ⟨_, rfl⟩
    rw [ha] at M1 HF1 ⊢
    clear m1 b1 e1 ha
    go_wp2_with fail
    go_loopw [8] (fun i wr => ∃ (q : Nat) (F : List Nat) (es : Is), q ≤ N ∧ i = .int .i64 q ∧ IkF w wr a F es ∧ (KyAt wr w.heap.size 0 k ∧ w.heap.size < wr.heap.size) ∧ Hid (∀ x ∈ F, w.heap.size < x)) (fun i _ => N - (intOf i).toNat)
    case atStart => exact ⟨0, _, _, by omega, rfl, M1.out, ⟨KB.out, hsz⟩, HF1⟩
    case round =>
      obtain ⟨q, F, es, hq, rfl, hm, ⟨hkb, hszr⟩, HFF⟩ := hrel
      have HM := Lib.hid hm
      have HKB := Lib.hid hkb
      clear hm hkb
      by_cases hqN : q < N
      · have hql : q < ops.length := by rw [HN.out]; exact hqN
        have hqN' : (q : Int) < N := by omega
        obtain ⟨b0, o0, e, g0, g1, g2, g3, g4⟩ := op_at (HO.out.below HM.out.old) q hql
        subst e
        have hok := HOK.out _ (List.getElem_mem hql)
        obtain ⟨d, hd⟩ : ∃ d, ops[q] = d := ⟨_, rfl⟩
        rw [hd] at g0 g1 g2 g3 g4 hok
        have HOKd := Lib.hid hok
        clear hd hok
        obtain ⟨x, es2, hdo⟩ : ∃ x es2, doI es d = (x, es2) := by
          cases h : doI es d with
          | mk x e2 => exact ⟨x, e2, rfl⟩
        have HDO := Lib.hid hdo
        clear hdo
        go_wp2_with fail
        refine (does_calls HM.out HOKd.out HDO.out).mono ?_
        rintro e w2 ⟨F2, lv, kw, rfl, -, -, m2, t2, f2, -, -⟩
        have M2 := Lib.hid m2
        have KB2 := Lib.hid (HKB.out.tch t2 (fun h => Nat.lt_irrefl _ (HFF.out _ h)))
        have hsz2 := t2.size
        have FF2 := Lib.hid (show ∀ x ∈ F2, w.heap.size < x from fun x hx => by
          rcases f2 x hx with h | h
          · exact HFF.out x h
          · omega)
        clear m2 t2 f2 g0 g1 g2 g3 g4
        go_wp2_with fail
        exact ⟨⟨q + 1, F2, es2, by omega, by go_num, M2.out, ⟨KB2.out, by omega⟩, FF2⟩, by simp [intOf]; omega⟩
      · obtain rfl : q = N := by omega
        clear hqN hq
        have HG := Lib.hid HM.out.good
        rcases getA_cases es id with ⟨ky, hga, hmem⟩ | ⟨hga, _⟩
        · have HGA := Lib.hid hga
          have HFA := Lib.hid (fnd_of HG.out hmem)
          clear hga hmem
          go_wp2_with fail
          refine (if_get id HM.out HGA.out).mono ?_
          rintro e w2 ⟨rfl, m2, b2⟩
          have M2 := Lib.hid m2
          have KB2 := Lib.hid (HKB.out.below b2)
          have hsz2 := b2.size
          simp only
          clear m2 b2
          go_wp2_with fail
          refine (if_find ky (M2.out.below (below_alloc w2 _)) HFA.out).mono ?_
          rintro e w3 ⟨rfl, m3, b3⟩
          have M3 := Lib.hid m3
          have KB3 := Lib.hid ((KB2.out.below (below_alloc w2 _)).below b3)
          have hsz3 := b3.size
          simp at hsz3
          have hsz3' : w.heap.size < w3.heap.size := by omega
          clear m3 b3 hsz3
          rcases fndA_cases es k with ⟨nf, hfk, hmk⟩ | ⟨hfk, _⟩
          · have HFK := Lib.hid hfk
            have HGK := Lib.hid (get_of HG.out hmk)
            clear hfk hmk
            obtain ⟨y0, y1⟩ := KB3.out
            simp only [Nat.zero_add] at y1
            go_wp2_with fail
            refine (if_find k M3.out HFK.out).mono ?_
            rintro e w5 ⟨rfl, m5, b5⟩
            have M5 := Lib.hid m5
            have KB5 := Lib.hid (KB3.out.below b5)
            have hsz5 := b5.size
            clear m5 b5 y0 y1
            go_wp2_with fail
            refine (if_get nf M5.out HGK.out).mono ?_
            rintro e w6 ⟨rfl, m6, b6⟩
            have KB6 := KB5.out.below b6
            have hsz6 := b6.size
            have M7 := Lib.hid (m6.below (below_alloc w6 (.cells #[.int .i64 k.h, .string ⟨k.t.toArray⟩] 38)))
            have KB7 := Lib.hid (KB6.below (below_alloc w6 (.cells #[.int .i64 k.h, .string ⟨k.t.toArray⟩] 38)))
            obtain ⟨y0, y1⟩ := KB6
            simp only [Nat.zero_add] at y1
            have hsz6' : w.heap.size < w6.heap.size := by omega
            clear m6 b6
            simp only
            go_upto_region 18 with fail
            refine forget (fun W7 => IkF w W7 a F es ∧ KyAt W7 w.heap.size 0 k ∧ w.heap.size < W7.heap.size) ⟨M7.out, KB7.out, by simp; omega⟩ ?_
            rintro w7 ⟨m7, kb7, hsz7⟩
            have M8 := Lib.hid m7
            have KB8 := Lib.hid kb7
            clear m7 kb7 M7 KB7 y0 y1
            have hct := if_count M8.out
            obtain ⟨y0, y1⟩ := KB8.out
            simp only [Nat.zero_add] at y1
            obtain ⟨gl, es3, hlv⟩ : ∃ gl es3, leaveI es k.h = (gl, es3) := by
              cases h : leaveI es k.h with
              | mk n e2 => exact ⟨n, e2, rfl⟩
            have HLV := Lib.hid hlv
            obtain ⟨nl, hnl⟩ : ∃ nl, es.length = nl := ⟨_, rfl⟩
            rw [hnl] at hct
            have HNL := Lib.hid hnl
            have hnl512 : nl ≤ 512 := by have := HG.out.few; omega
            have HCT := Lib.hid hct
            clear hlv hnl hct
            go_wp2_with fail
            refine HCT.out.mono ?_
            rintro e w8 ⟨rfl, rfl⟩
            go_wp2_with fail
            refine (if_leave k.h M8.out HLV.out).mono ?_
            rintro e w9 ⟨v9, F9, rfl, o9, m9, t9, f9, of9⟩
            obtain ⟨A9, c9, rfl, r9⟩ := o9.rd
            have M9 := Lib.hid m9
            have KB9 := Lib.hid (KB8.out.tch t9 (fun h => Nat.lt_irrefl _ (HFF.out _ h)))
            have hsz9 := t9.size
            have HF9 := Lib.hid (show ∀ x ∈ F9, w.heap.size < x from fun x hx => by
              rcases f9 x hx with h | h
              · exact HFF.out x h
              · omega)
            have HO9 := Lib.hid o9
            have HOF9 := Lib.hid of9
            have HR9 := Lib.hid r9
            have hm9 := r9.2.2.1
            have hl9 := r9.2.1
            obtain ⟨ng, hng⟩ : ∃ ng, gl.length = ng := ⟨_, rfl⟩
            rw [hng] at HR9 hl9 ⊢
            have HNG := Lib.hid hng
            have hlen := leave_len es k.h
            rw [HLV.out] at hlen
            simp only at hlen
            rw [hng, HNL.out] at hlen
            obtain ⟨n3, hn3⟩ : ∃ n3, es3.length = n3 := ⟨_, rfl⟩
            rw [hn3] at hlen
            have HN3 := Lib.hid hn3
            obtain ⟨fn, hfn⟩ := leave_fnd es k
            rw [HLV.out] at hfn
            have HFN := Lib.hid hfn
            have hks := leave_keys es k.h
            rw [HLV.out] at hks
            have HKS := Lib.hid hks
            obtain ⟨z0, z1⟩ := KB9.out
            simp only [Nat.zero_add] at z1
            clear m9 t9 f9 o9 of9 r9 hng hn3 hfn hks y0 y1
            go_wp2_with fail
            refine (if_find k M9.out HFN.out).mono ?_
            rintro e w10 ⟨rfl, m10, b10⟩
            have M10 := Lib.hid m10
            have KB10 := Lib.hid (KB9.out.below b10)
            have HR10 := Lib.hid (HR9.out.below (b10))
            have hsz10 := b10.size
            clear m10 b10 z0 z1
            go_wp2_with fail
            refine (if_count M10.out).mono ?_
            rintro e w11 ⟨rfl, rfl⟩
            rw [HN3.out]
            have e5 : ((n3 : Int) == (nl : Int) - ng) = true := by rw [ibeq]; exact decide_eq_true (by omega)
            go_wp2_with fail
            go_loopw [19] (fun i wr => ∃ (q : Nat), q ≤ ng ∧ i = .int .i64 q ∧ Below w10.heap.size w10 wr) (fun i _ => ng - (intOf i).toNat)
            case atStart => exact ⟨0, by omega, rfl, Below.refl _ _⟩
            case round =>
              obtain ⟨q, hq, rfl, hbl⟩ := hrel
              have HBL := Lib.hid hbl
              clear hbl
              by_cases hqn : q < ng
              · have hqn' : (q : Int) < ng := by omega
                obtain ⟨b2, o2, e, x0, x1⟩ := key_at (HR10.out.below HBL.out) q (by rw [HNG.out]; exact hqn)
                subst e
                have hkk := HKS.out _ (List.getElem_mem (show q < gl.length by rw [HNG.out]; exact hqn))
                rw [hkk] at x0
                obtain ⟨y0, y1⟩ := KB10.out.below HBL.out
                clear hkk
                go_wp2_with fail
                go_quiet (fail)
                go_wp2_with fail
                exact ⟨⟨q + 1, by omega, by go_num, bel_dn HBL.out _⟩, by simp [intOf]; omega⟩
              · obtain rfl : q = ng := by omega
                obtain ⟨db, es4, hdr⟩ : ∃ db es4, dropI es3 id = (db, es4) := by
                  cases h : dropI es3 id with
                  | mk n e2 => exact ⟨n, e2, rfl⟩
                have HDR := Lib.hid hdr
                obtain ⟨kx, hkx⟩ := drop_get es3 id
                rw [hdr] at hkx
                have HKX := Lib.hid hkx
                have MR := Lib.hid (M10.out.below HBL.out)
                clear hdr hkx
                go_wp2_with fail
                refine (if_drop id MR.out HDR.out).mono ?_
                rintro e w12 ⟨F12, rfl, m12, -, -⟩
                have M12 := Lib.hid m12
                clear m12
                go_wp2_with fail
                refine (if_get id M12.out HKX.out).mono ?_
                rintro e w13 ⟨rfl, m13, b13⟩
                have M13 := Lib.hid m13
                clear m13 b13
                simp only
                go_wp2_with fail
                refine (works_calls _).mono ?_
                rintro e w14 ⟨rfl, b14⟩
                have B14 := Lib.hid b14
                clear b14
                go_wp2_with fail
                go_ret
                exact ⟨rfl, M13.out.old.trans (B14.out.mono (by have := M13.out.old.size; simp; omega))⟩
          · have HFK := Lib.hid hfk
            clear hfk
            obtain ⟨y0, y1⟩ := KB3.out
            simp only [Nat.zero_add] at y1
            go_wp2_with fail
            refine (if_find k M3.out HFK.out).mono ?_
            rintro e w7 ⟨rfl, m5, b5⟩
            have M8 := Lib.hid m5
            have KB8 := Lib.hid (KB3.out.below b5)
            have hsz7 := b5.size
            have hsz7' : w.heap.size < w7.heap.size := by omega
            clear m5 b5 y0 y1
            go_upto_region 18 with fail
            have hct := if_count M8.out
            obtain ⟨y0, y1⟩ := KB8.out
            simp only [Nat.zero_add] at y1
            obtain ⟨gl, es3, hlv⟩ : ∃ gl es3, leaveI es k.h = (gl, es3) := by
              cases h : leaveI es k.h with
              | mk n e2 => exact ⟨n, e2, rfl⟩
            have HLV := Lib.hid hlv
            obtain ⟨nl, hnl⟩ : ∃ nl, es.length = nl := ⟨_, rfl⟩
            rw [hnl] at hct
            have HNL := Lib.hid hnl
            have hnl512 : nl ≤ 512 := by have := HG.out.few; omega
            have HCT := Lib.hid hct
            clear hlv hnl hct
            go_wp2_with fail
            refine HCT.out.mono ?_
            rintro e w8 ⟨rfl, rfl⟩
            go_wp2_with fail
            refine (if_leave k.h M8.out HLV.out).mono ?_
            rintro e w9 ⟨v9, F9, rfl, o9, m9, t9, f9, of9⟩
            obtain ⟨A9, c9, rfl, r9⟩ := o9.rd
            have M9 := Lib.hid m9
            have KB9 := Lib.hid (KB8.out.tch t9 (fun h => Nat.lt_irrefl _ (HFF.out _ h)))
            have hsz9 := t9.size
            have HF9 := Lib.hid (show ∀ x ∈ F9, w.heap.size < x from fun x hx => by
              rcases f9 x hx with h | h
              · exact HFF.out x h
              · omega)
            have HO9 := Lib.hid o9
            have HOF9 := Lib.hid of9
            have HR9 := Lib.hid r9
            have hm9 := r9.2.2.1
            have hl9 := r9.2.1
            obtain ⟨ng, hng⟩ : ∃ ng, gl.length = ng := ⟨_, rfl⟩
            rw [hng] at HR9 hl9 ⊢
            have HNG := Lib.hid hng
            have hlen := leave_len es k.h
            rw [HLV.out] at hlen
            simp only at hlen
            rw [hng, HNL.out] at hlen
            obtain ⟨n3, hn3⟩ : ∃ n3, es3.length = n3 := ⟨_, rfl⟩
            rw [hn3] at hlen
            have HN3 := Lib.hid hn3
            obtain ⟨fn, hfn⟩ := leave_fnd es k
            rw [HLV.out] at hfn
            have HFN := Lib.hid hfn
            have hks := leave_keys es k.h
            rw [HLV.out] at hks
            have HKS := Lib.hid hks
            obtain ⟨z0, z1⟩ := KB9.out
            simp only [Nat.zero_add] at z1
            clear m9 t9 f9 o9 of9 r9 hng hn3 hfn hks y0 y1
            go_wp2_with fail
            refine (if_find k M9.out HFN.out).mono ?_
            rintro e w10 ⟨rfl, m10, b10⟩
            have M10 := Lib.hid m10
            have KB10 := Lib.hid (KB9.out.below b10)
            have HR10 := Lib.hid (HR9.out.below (b10))
            have hsz10 := b10.size
            clear m10 b10 z0 z1
            go_wp2_with fail
            refine (if_count M10.out).mono ?_
            rintro e w11 ⟨rfl, rfl⟩
            rw [HN3.out]
            have e5 : ((n3 : Int) == (nl : Int) - ng) = true := by rw [ibeq]; exact decide_eq_true (by omega)
            go_wp2_with fail
            go_loopw [19] (fun i wr => ∃ (q : Nat), q ≤ ng ∧ i = .int .i64 q ∧ Below w10.heap.size w10 wr) (fun i _ => ng - (intOf i).toNat)
            case atStart => exact ⟨0, by omega, rfl, Below.refl _ _⟩
            case round =>
              obtain ⟨q, hq, rfl, hbl⟩ := hrel
              have HBL := Lib.hid hbl
              clear hbl
              by_cases hqn : q < ng
              · have hqn' : (q : Int) < ng := by omega
                obtain ⟨b2, o2, e, x0, x1⟩ := key_at (HR10.out.below HBL.out) q (by rw [HNG.out]; exact hqn)
                subst e
                have hkk := HKS.out _ (List.getElem_mem (show q < gl.length by rw [HNG.out]; exact hqn))
                rw [hkk] at x0
                obtain ⟨y0, y1⟩ := KB10.out.below HBL.out
                clear hkk
                go_wp2_with fail
                go_quiet (fail)
                go_wp2_with fail
                exact ⟨⟨q + 1, by omega, by go_num, bel_dn HBL.out _⟩, by simp [intOf]; omega⟩
              · obtain rfl : q = ng := by omega
                obtain ⟨db, es4, hdr⟩ : ∃ db es4, dropI es3 id = (db, es4) := by
                  cases h : dropI es3 id with
                  | mk n e2 => exact ⟨n, e2, rfl⟩
                have HDR := Lib.hid hdr
                obtain ⟨kx, hkx⟩ := drop_get es3 id
                rw [hdr] at hkx
                have HKX := Lib.hid hkx
                have MR := Lib.hid (M10.out.below HBL.out)
                clear hdr hkx
                go_wp2_with fail
                refine (if_drop id MR.out HDR.out).mono ?_
                rintro e w12 ⟨F12, rfl, m12, -, -⟩
                have M12 := Lib.hid m12
                clear m12
                go_wp2_with fail
                refine (if_get id M12.out HKX.out).mono ?_
                rintro e w13 ⟨rfl, m13, b13⟩
                have M13 := Lib.hid m13
                clear m13 b13
                simp only
                go_wp2_with fail
                refine (works_calls _).mono ?_
                rintro e w14 ⟨rfl, b14⟩
                have B14 := Lib.hid b14
                clear b14
                go_wp2_with fail
                go_ret
                exact ⟨rfl, M13.out.old.trans (B14.out.mono (by have := M13.out.old.size; simp; omega))⟩
        · have HGA := Lib.hid hga
          clear hga
          go_wp2_with fail
          refine (if_get id HM.out HGA.out).mono ?_
          rintro e w2 ⟨rfl, m2, b2⟩
          have M2 := Lib.hid (m2.below (below_alloc w2 (.cells #[.int .i64 (kz).h, .string ⟨(kz).t.toArray⟩] 38)))
          have KB2 := Lib.hid ((HKB.out.below b2).below (below_alloc w2 (.cells #[.int .i64 (kz).h, .string ⟨(kz).t.toArray⟩] 38)))
          have hsz2 := b2.size
          clear m2 b2
          go_upto_region 13 with fail
          refine forget (fun W3 => IkF w W3 a F es ∧ KyAt W3 w.heap.size 0 k ∧ w.heap.size < W3.heap.size) ⟨M2.out, KB2.out, by simp; omega⟩ ?_
          rintro w3 ⟨m3, kb3, hsz3⟩
          have M3 := Lib.hid m3
          have KB3 := Lib.hid kb3
          clear m3 kb3 M2 KB2
          rcases fndA_cases es k with ⟨nf, hfk, hmk⟩ | ⟨hfk, _⟩
          · have HFK := Lib.hid hfk
            have HGK := Lib.hid (get_of HG.out hmk)
            clear hfk hmk
            obtain ⟨y0, y1⟩ := KB3.out
            simp only [Nat.zero_add] at y1
            go_wp2_with fail
            refine (if_find k M3.out HFK.out).mono ?_
            rintro e w5 ⟨rfl, m5, b5⟩
            have M5 := Lib.hid m5
            have KB5 := Lib.hid (KB3.out.below b5)
            have hsz5 := b5.size
            clear m5 b5 y0 y1
            go_wp2_with fail
            refine (if_get nf M5.out HGK.out).mono ?_
            rintro e w6 ⟨rfl, m6, b6⟩
            have KB6 := KB5.out.below b6
            have hsz6 := b6.size
            have M7 := Lib.hid (m6.below (below_alloc w6 (.cells #[.int .i64 k.h, .string ⟨k.t.toArray⟩] 38)))
            have KB7 := Lib.hid (KB6.below (below_alloc w6 (.cells #[.int .i64 k.h, .string ⟨k.t.toArray⟩] 38)))
            obtain ⟨y0, y1⟩ := KB6
            simp only [Nat.zero_add] at y1
            have hsz6' : w.heap.size < w6.heap.size := by omega
            clear m6 b6
            simp only
            go_upto_region 18 with fail
            refine forget (fun W7 => IkF w W7 a F es ∧ KyAt W7 w.heap.size 0 k ∧ w.heap.size < W7.heap.size) ⟨M7.out, KB7.out, by simp; omega⟩ ?_
            rintro w7 ⟨m7, kb7, hsz7⟩
            have M8 := Lib.hid m7
            have KB8 := Lib.hid kb7
            clear m7 kb7 M7 KB7 y0 y1
            have hct := if_count M8.out
            obtain ⟨y0, y1⟩ := KB8.out
            simp only [Nat.zero_add] at y1
            obtain ⟨gl, es3, hlv⟩ : ∃ gl es3, leaveI es k.h = (gl, es3) := by
              cases h : leaveI es k.h with
              | mk n e2 => exact ⟨n, e2, rfl⟩
            have HLV := Lib.hid hlv
            obtain ⟨nl, hnl⟩ : ∃ nl, es.length = nl := ⟨_, rfl⟩
            rw [hnl] at hct
            have HNL := Lib.hid hnl
            have hnl512 : nl ≤ 512 := by have := HG.out.few; omega
            have HCT := Lib.hid hct
            clear hlv hnl hct
            go_wp2_with fail
            refine HCT.out.mono ?_
            rintro e w8 ⟨rfl, rfl⟩
            go_wp2_with fail
            refine (if_leave k.h M8.out HLV.out).mono ?_
            rintro e w9 ⟨v9, F9, rfl, o9, m9, t9, f9, of9⟩
            obtain ⟨A9, c9, rfl, r9⟩ := o9.rd
            have M9 := Lib.hid m9
            have KB9 := Lib.hid (KB8.out.tch t9 (fun h => Nat.lt_irrefl _ (HFF.out _ h)))
            have hsz9 := t9.size
            have HF9 := Lib.hid (show ∀ x ∈ F9, w.heap.size < x from fun x hx => by
              rcases f9 x hx with h | h
              · exact HFF.out x h
              · omega)
            have HO9 := Lib.hid o9
            have HOF9 := Lib.hid of9
            have HR9 := Lib.hid r9
            have hm9 := r9.2.2.1
            have hl9 := r9.2.1
            obtain ⟨ng, hng⟩ : ∃ ng, gl.length = ng := ⟨_, rfl⟩
            rw [hng] at HR9 hl9 ⊢
            have HNG := Lib.hid hng
            have hlen := leave_len es k.h
            rw [HLV.out] at hlen
            simp only at hlen
            rw [hng, HNL.out] at hlen
            obtain ⟨n3, hn3⟩ : ∃ n3, es3.length = n3 := ⟨_, rfl⟩
            rw [hn3] at hlen
            have HN3 := Lib.hid hn3
            obtain ⟨fn, hfn⟩ := leave_fnd es k
            rw [HLV.out] at hfn
            have HFN := Lib.hid hfn
            have hks := leave_keys es k.h
            rw [HLV.out] at hks
            have HKS := Lib.hid hks
            obtain ⟨z0, z1⟩ := KB9.out
            simp only [Nat.zero_add] at z1
            clear m9 t9 f9 o9 of9 r9 hng hn3 hfn hks y0 y1
            go_wp2_with fail
            refine (if_find k M9.out HFN.out).mono ?_
            rintro e w10 ⟨rfl, m10, b10⟩
            have M10 := Lib.hid m10
            have KB10 := Lib.hid (KB9.out.below b10)
            have HR10 := Lib.hid (HR9.out.below (b10))
            have hsz10 := b10.size
            clear m10 b10 z0 z1
            go_wp2_with fail
            refine (if_count M10.out).mono ?_
            rintro e w11 ⟨rfl, rfl⟩
            rw [HN3.out]
            have e5 : ((n3 : Int) == (nl : Int) - ng) = true := by rw [ibeq]; exact decide_eq_true (by omega)
            go_wp2_with fail
            go_loopw [19] (fun i wr => ∃ (q : Nat), q ≤ ng ∧ i = .int .i64 q ∧ Below w10.heap.size w10 wr) (fun i _ => ng - (intOf i).toNat)
            case atStart => exact ⟨0, by omega, rfl, Below.refl _ _⟩
            case round =>
              obtain ⟨q, hq, rfl, hbl⟩ := hrel
              have HBL := Lib.hid hbl
              clear hbl
              by_cases hqn : q < ng
              · have hqn' : (q : Int) < ng := by omega
                obtain ⟨b2, o2, e, x0, x1⟩ := key_at (HR10.out.below HBL.out) q (by rw [HNG.out]; exact hqn)
                subst e
                have hkk := HKS.out _ (List.getElem_mem (show q < gl.length by rw [HNG.out]; exact hqn))
                rw [hkk] at x0
                obtain ⟨y0, y1⟩ := KB10.out.below HBL.out
                clear hkk
                go_wp2_with fail
                go_quiet (fail)
                go_wp2_with fail
                exact ⟨⟨q + 1, by omega, by go_num, bel_dn HBL.out _⟩, by simp [intOf]; omega⟩
              · obtain rfl : q = ng := by omega
                obtain ⟨db, es4, hdr⟩ : ∃ db es4, dropI es3 id = (db, es4) := by
                  cases h : dropI es3 id with
                  | mk n e2 => exact ⟨n, e2, rfl⟩
                have HDR := Lib.hid hdr
                obtain ⟨kx, hkx⟩ := drop_get es3 id
                rw [hdr] at hkx
                have HKX := Lib.hid hkx
                have MR := Lib.hid (M10.out.below HBL.out)
                clear hdr hkx
                go_wp2_with fail
                refine (if_drop id MR.out HDR.out).mono ?_
                rintro e w12 ⟨F12, rfl, m12, -, -⟩
                have M12 := Lib.hid m12
                clear m12
                go_wp2_with fail
                refine (if_get id M12.out HKX.out).mono ?_
                rintro e w13 ⟨rfl, m13, b13⟩
                have M13 := Lib.hid m13
                clear m13 b13
                simp only
                go_wp2_with fail
                refine (works_calls _).mono ?_
                rintro e w14 ⟨rfl, b14⟩
                have B14 := Lib.hid b14
                clear b14
                go_wp2_with fail
                go_ret
                exact ⟨rfl, M13.out.old.trans (B14.out.mono (by have := M13.out.old.size; simp; omega))⟩
          · have HFK := Lib.hid hfk
            clear hfk
            obtain ⟨y0, y1⟩ := KB3.out
            simp only [Nat.zero_add] at y1
            go_wp2_with fail
            refine (if_find k M3.out HFK.out).mono ?_
            rintro e w7 ⟨rfl, m5, b5⟩
            have M8 := Lib.hid m5
            have KB8 := Lib.hid (KB3.out.below b5)
            have hsz7 := b5.size
            have hsz7' : w.heap.size < w7.heap.size := by omega
            clear m5 b5 y0 y1
            go_upto_region 18 with fail
            have hct := if_count M8.out
            obtain ⟨y0, y1⟩ := KB8.out
            simp only [Nat.zero_add] at y1
            obtain ⟨gl, es3, hlv⟩ : ∃ gl es3, leaveI es k.h = (gl, es3) := by
              cases h : leaveI es k.h with
              | mk n e2 => exact ⟨n, e2, rfl⟩
            have HLV := Lib.hid hlv
            obtain ⟨nl, hnl⟩ : ∃ nl, es.length = nl := ⟨_, rfl⟩
            rw [hnl] at hct
            have HNL := Lib.hid hnl
            have hnl512 : nl ≤ 512 := by have := HG.out.few; omega
            have HCT := Lib.hid hct
            clear hlv hnl hct
            go_wp2_with fail
            refine HCT.out.mono ?_
            rintro e w8 ⟨rfl, rfl⟩
            go_wp2_with fail
            refine (if_leave k.h M8.out HLV.out).mono ?_
            rintro e w9 ⟨v9, F9, rfl, o9, m9, t9, f9, of9⟩
            obtain ⟨A9, c9, rfl, r9⟩ := o9.rd
            have M9 := Lib.hid m9
            have KB9 := Lib.hid (KB8.out.tch t9 (fun h => Nat.lt_irrefl _ (HFF.out _ h)))
            have hsz9 := t9.size
            have HF9 := Lib.hid (show ∀ x ∈ F9, w.heap.size < x from fun x hx => by
              rcases f9 x hx with h | h
              · exact HFF.out x h
              · omega)
            have HO9 := Lib.hid o9
            have HOF9 := Lib.hid of9
            have HR9 := Lib.hid r9
            have hm9 := r9.2.2.1
            have hl9 := r9.2.1
            obtain ⟨ng, hng⟩ : ∃ ng, gl.length = ng := ⟨_, rfl⟩
            rw [hng] at HR9 hl9 ⊢
            have HNG := Lib.hid hng
            have hlen := leave_len es k.h
            rw [HLV.out] at hlen
            simp only at hlen
            rw [hng, HNL.out] at hlen
            obtain ⟨n3, hn3⟩ : ∃ n3, es3.length = n3 := ⟨_, rfl⟩
            rw [hn3] at hlen
            have HN3 := Lib.hid hn3
            obtain ⟨fn, hfn⟩ := leave_fnd es k
            rw [HLV.out] at hfn
            have HFN := Lib.hid hfn
            have hks := leave_keys es k.h
            rw [HLV.out] at hks
            have HKS := Lib.hid hks
            obtain ⟨z0, z1⟩ := KB9.out
            simp only [Nat.zero_add] at z1
            clear m9 t9 f9 o9 of9 r9 hng hn3 hfn hks y0 y1
            go_wp2_with fail
            refine (if_find k M9.out HFN.out).mono ?_
            rintro e w10 ⟨rfl, m10, b10⟩
            have M10 := Lib.hid m10
            have KB10 := Lib.hid (KB9.out.below b10)
            have HR10 := Lib.hid (HR9.out.below (b10))
            have hsz10 := b10.size
            clear m10 b10 z0 z1
            go_wp2_with fail
            refine (if_count M10.out).mono ?_
            rintro e w11 ⟨rfl, rfl⟩
            rw [HN3.out]
            have e5 : ((n3 : Int) == (nl : Int) - ng) = true := by rw [ibeq]; exact decide_eq_true (by omega)
            go_wp2_with fail
            go_loopw [19] (fun i wr => ∃ (q : Nat), q ≤ ng ∧ i = .int .i64 q ∧ Below w10.heap.size w10 wr) (fun i _ => ng - (intOf i).toNat)
            case atStart => exact ⟨0, by omega, rfl, Below.refl _ _⟩
            case round =>
              obtain ⟨q, hq, rfl, hbl⟩ := hrel
              have HBL := Lib.hid hbl
              clear hbl
              by_cases hqn : q < ng
              · have hqn' : (q : Int) < ng := by omega
                obtain ⟨b2, o2, e, x0, x1⟩ := key_at (HR10.out.below HBL.out) q (by rw [HNG.out]; exact hqn)
                subst e
                have hkk := HKS.out _ (List.getElem_mem (show q < gl.length by rw [HNG.out]; exact hqn))
                rw [hkk] at x0
                obtain ⟨y0, y1⟩ := KB10.out.below HBL.out
                clear hkk
                go_wp2_with fail
                go_quiet (fail)
                go_wp2_with fail
                exact ⟨⟨q + 1, by omega, by go_num, bel_dn HBL.out _⟩, by simp [intOf]; omega⟩
              · obtain rfl : q = ng := by omega
                obtain ⟨db, es4, hdr⟩ : ∃ db es4, dropI es3 id = (db, es4) := by
                  cases h : dropI es3 id with
                  | mk n e2 => exact ⟨n, e2, rfl⟩
                have HDR := Lib.hid hdr
                obtain ⟨kx, hkx⟩ := drop_get es3 id
                rw [hdr] at hkx
                have HKX := Lib.hid hkx
                have MR := Lib.hid (M10.out.below HBL.out)
                clear hdr hkx
                go_wp2_with fail
                refine (if_drop id MR.out HDR.out).mono ?_
                rintro e w12 ⟨F12, rfl, m12, -, -⟩
                have M12 := Lib.hid m12
                clear m12
                go_wp2_with fail
                refine (if_get id M12.out HKX.out).mono ?_
                rintro e w13 ⟨rfl, m13, b13⟩
                have M13 := Lib.hid m13
                clear m13 b13
                simp only
                go_wp2_with fail
                refine (works_calls _).mono ?_
                rintro e w14 ⟨rfl, b14⟩
                have B14 := Lib.hid b14
                clear b14
                go_wp2_with fail
                go_ret
                exact ⟨rfl, M13.out.old.trans (B14.out.mono (by have := M13.out.old.size; simp; omega))⟩
theorem iboth_row {w : World} (A : Option Addr) (c : Nat) (ops : List OpI) (ho : RdO w A c ops) (x : Int) (hx : (Lit.int .u32 x).wf = true) (k : Ky) (_ : True) :
    Calls Try.prog 6 #[.slice A ops.length c, .int .u32 x, .agg #[.int .i64 k.h, .string ⟨k.t.toArray⟩]] w fun e w' => e = .returned (.bool true) ∧ Below w.heap.size w w' := by
  have h1 := wf_u32 hx
  obtain ⟨a, rfl⟩ : ∃ a : Nat, x = a := ⟨x.toNat, by omega⟩
  exact iboth_calls A c ops a k w ho (by omega)
end Go.Proofs.Ytafmhpcfjmannaa

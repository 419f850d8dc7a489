import Derived.Test.YtafmhpcfjmannaaIk
set_option linter.unusedVariables false
set_option linter.unusedSimpArgs false
namespace Go.Proofs.Ytafmhpcfjmannaa
open Go.RowKit

/-- What a closure over a pointer to the numbers and a key sees. -/
def SeesI (W : World) (b1 b2 a : Nat) (r : Nat) (k : Ky) (es : Is) : Prop :=
  W.cell? ⟨b1, 0, none⟩ = some (.pointer (some ⟨a, 0, none⟩)) ∧ KyAt W b2 0 k ∧ W.cell? ⟨a, 0, none⟩ = some (.map (some r)) ∧
    ∀ t : Nat, (Instr.lookup 57 (.map (some r)) (uv t) false).run Try.prog W.drew = .ok (kv (getA es t).1) W.drew

set_option maxHeartbeats 800000 in
theorem find1_calls (b1 b2 a r : Nat) (k : Ky) (es : Is) (x : Nat) (w : World) (h : SeesI w b1 b2 a r k es) :
    Calls Try.prog 33 #[.int .u32 x, .pointer (some ⟨b1, 0, none⟩), .pointer (some ⟨b2, 0, none⟩)] w fun e w' => e = .returned (.bool (decide ((getA es x).1 = k))) ∧ Below w.heap.size w w' := by
  obtain ⟨h1, ⟨h2, h3⟩, h4, h5⟩ := h
  have hl := h5 x
  obtain ⟨⟨vh, vt⟩, hv⟩ : ∃ v, (getA es x).1 = v := ⟨_, rfl⟩
  obtain ⟨kh, kt⟩ := k
  rw [hv] at hl ⊢
  unfold kv str uv at hl
  simp only at hl h2 h3
  clear h5 hv
  by_cases e1 : vh = kh
  · subst e1
    by_cases e2 : vt = kt
    · subst e2
      rw [decide_eq_true rfl]
      go_enter Try.func33, Try.ntmps33
      go_wp2_with fail
      go_region
      go_wp2_with fail
      go_ret
      exact ⟨rfl, below_drew w⟩
    · have hb : (vt == kt) = false := by rw [lbeq, decide_eq_false e2]
      have hd : decide ((⟨vh, vt⟩ : Ky) = ⟨vh, kt⟩) = false := decide_eq_false (by simpa using e2)
      rw [hd]
      clear e2 hd
      go_enter Try.func33, Try.ntmps33
      go_wp2_with fail
      go_region
      go_wp2_with fail
      go_ret
      exact ⟨rfl, below_drew w⟩
  · have hb : (vh == kh) = false := by rw [ibeq, decide_eq_false e1]
    have hd : decide ((⟨vh, vt⟩ : Ky) = ⟨kh, kt⟩) = false := decide_eq_false (fun e => e1 (congrArg Ky.h e))
    rw [hd]
    clear e1 hd
    go_enter Try.func33, Try.ntmps33
    go_wp2_with fail
    go_region
    go_wp2_with fail
    go_ret
    exact ⟨rfl, below_drew w⟩

/-- A row of numbers, read. -/
theorem num_at {w : World} {A : Option Addr} {n c : Nat} {ns : List Nat} (h : RdC 1 w A n c (ns.map uv)) (j : Nat) (hj : j < ns.length) : ∃ b o, A = some ⟨b, o, none⟩ ∧ w.cell? ⟨b, o + j, none⟩ = some (.int .u32 (ns[j] : Nat)) := by
  obtain ⟨ad, rfl, h1⟩ := h.cell j (uv ns[j]) (by rw [List.getElem?_map, List.getElem?_eq_getElem hj]; rfl)
  obtain ⟨ad', e, h2⟩ := h.cell 0 (uv (ns[0]'(by omega))) (by rw [List.getElem?_map, List.getElem?_eq_getElem (by omega)]; rfl)
  cases e
  have hs : ad.spot = none := by
    cases hs : ad.spot with
    | none => rfl
    | some s =>
      exfalso
      rw [show ad.add 0 = ad from rfl] at h2
      unfold World.cell? at h2
      simp only [hs] at h2
      split at h2 <;> simp at h2
  obtain ⟨b, o, sp⟩ := ad
  cases hs
  rw [plain_add] at h1
  exact ⟨b, o, rfl, h1⟩
/-- Where a number of a kind stands first. -/
def whereN (ns : List Nat) (q : Nat → Bool) : Int := match ns.findIdx? q with | some i => (i : Int) | none => -1
theorem whereN_at {ns : List Nat} {q : Nat → Bool} {k : Nat} (hk : k < ns.length) (h : q ns[k] = true) (hb : ∀ j (hj : j < ns.length), j < k → q ns[j] = false) : whereN ns q = k := by
  unfold whereN
  have : ns.findIdx? q = some k := by
    rw [List.findIdx?_eq_some_iff_getElem]
    exact ⟨hk, h, fun j hj => by simpa using hb j (by omega) hj⟩
  rw [this]
theorem whereN_none {ns : List Nat} {q : Nat → Bool} (hb : ∀ j (hj : j < ns.length), q ns[j] = false) : whereN ns q = -1 := by
  unfold whereN
  have : ns.findIdx? q = none := by
    rw [List.findIdx?_eq_none_iff]
    intro x hx
    obtain ⟨j, hj, rfl⟩ := List.getElem_of_mem hx
    simpa using hb j hj
  rw [this]
theorem whereN_cases (ns : List Nat) (q : Nat → Bool) : (whereN ns q = -1 ∧ ∀ j (hj : j < ns.length), q ns[j] = false) ∨ ∃ k, ∃ hk : k < ns.length, whereN ns q = k ∧ q ns[k] = true ∧ ∀ j (hj : j < ns.length), j < k → q ns[j] = false := by
  unfold whereN
  cases h : ns.findIdx? q with
  | none =>
    refine .inl ⟨rfl, fun j hj => ?_⟩
    rw [List.findIdx?_eq_none_iff] at h
    exact h _ (List.getElem_mem hj)
  | some k =>
    rw [List.findIdx?_eq_some_iff_getElem] at h
    obtain ⟨hk, h1, h2⟩ := h
    exact .inr ⟨k, hk, rfl, h1, fun j hj hjk => by simpa using h2 j hjk⟩

set_option maxHeartbeats 800000 in
theorem idxk_calls (A : Option Addr) (n c b1 b2 a r : Nat) (k : Ky) (es : Is) (ns : List Nat) (w : World) (h : RdC 1 w A n c (ns.map uv)) (hs : ∀ W, Below w.heap.size w W → SeesI W b1 b2 a r k es) :
    Calls Try.prog 32 #[.slice A n c, .func (.func 33) #[] #[.pointer (some ⟨b1, 0, none⟩), .pointer (some ⟨b2, 0, none⟩)]] w fun e w' => e = .returned (.int .i64 (whereN ns fun x => decide ((getA es x).1 = k))) ∧ Below w.heap.size w w' := by
  have hl : n = ns.length := by have := h.1; simp at this; omega
  subst hl
  have H := Lib.hid h
  have HS := Lib.hid hs
  have hmx := h.2.2.1
  have hlc := h.2.1
  obtain ⟨N, hN⟩ : ∃ N, ns.length = N := ⟨_, rfl⟩
  obtain ⟨q, hq⟩ : ∃ q : Nat → Bool, (fun x => decide ((getA es x).1 = k)) = q := ⟨_, rfl⟩
  rw [hN] at hlc ⊢
  rw [hq]
  have HQ := Lib.hid (show ∀ x, decide ((getA es x).1 = k) = q x from fun x => congrFun hq x)
  have HN := Lib.hid hN
  clear h hs hN hq
  go_enter Try.func32, Try.ntmps32
  go_wp2_with fail
  go_loopw [5, 8] (fun _ i wr => ∃ k : Nat, k ≤ N ∧ i = .int .i64 k ∧ Below w.heap.size w wr ∧ Hid (∀ j (hj : j < ns.length), j < k → q ns[j] = false)) (fun _ i _ => N - (intOf i).toNat)
  case atStart => exact ⟨0, by omega, rfl, Below.refl _ _, Lib.hid (fun j _ hj => by omega)⟩
  case round =>
    obtain ⟨i, hi, rfl, hbl, HB⟩ := hrel
    have HBL := Lib.hid hbl
    clear hbl
    by_cases hkN : i < N
    · obtain ⟨b0, o0, rfl, g1⟩ := num_at (H.out.below HBL.out) i (by rw [HN.out]; exact hkN)
      obtain ⟨x, hx⟩ : ∃ x, ns[i]'(by rw [HN.out]; exact hkN) = x := ⟨_, rfl⟩
      rw [hx] at g1
      have HX := Lib.hid hx
      have hkN' : (i : Int) < N := by omega
      clear hx
      go_wp2_with fail
      refine (find1_calls b1 b2 a r k es x _ (HS.out _ HBL.out)).mono ?_
      rintro e w1 ⟨rfl, bl1⟩
      rw [HQ.out x]
      have BL1 := Lib.hid (below_then HBL.out HBL.out.size bl1)
      clear bl1 g1
      cases hqx : q x with
      | true =>
        have HW := Lib.hid (show whereN ns q = i from whereN_at (by rw [HN.out]; exact hkN) (by rw [HX.out]; exact hqx) HB.out)
        clear hqx
        go_wp2_with fail
        go_ret
        exact ⟨by rw [HW.out]; rfl, BL1.out⟩
      | false =>
        have HXT := Lib.hid hqx
        clear hqx
        go_wp2_with fail
        refine ⟨⟨i + 1, by omega, by go_num, BL1.out, Lib.hid (fun j hj hjk => ?_)⟩, by simp [intOf]; omega⟩
        by_cases h' : j < i
        · exact HB.out j hj h'
        · obtain rfl : j = i := by omega
          rw [HX.out]; exact HXT.out
    · obtain rfl : i = N := by omega
      have HW := Lib.hid (show whereN ns q = -1 from whereN_none fun j hj => HB.out j hj (by have := HN.out; omega))
      go_wp2_with fail
      go_ret
      exact ⟨by rw [HW.out]; rfl, HBL.out⟩

set_option maxHeartbeats 400000 in
theorem findI_nil (k : Ky) (w : World) :
    Calls Try.prog 20 #[.pointer none, .agg #[.int .i64 k.h, .string ⟨k.t.toArray⟩]] w fun e w' => e = .returned (.tuple #[.int .u32 0, .bool false]) ∧ Below w.heap.size w w' := by
  go_enter Try.func20, Try.ntmps20
  go_wp2
  go_ret2
  exact ⟨rfl, (below_alloc w _).trans ((below_alloc _ _).mono (by simp))⟩

/-- The first number of a key, and whether there is one. -/
def fndA (es : Is) (k : Ky) : Nat × Bool := ((fiI es k).getD 0, (fiI es k).isSome)
theorem fnd_where (es : Is) (hn : (es.map (·.1)).Nodup) (k : Ky) :
    (whereN (es.map (·.1)) (fun x => decide ((getA es x).1 = k)) = -1 ∧ fndA es k = (0, false)) ∨ ∃ i, ∃ hi : i < (es.map (·.1)).length, whereN (es.map (·.1)) (fun x => decide ((getA es x).1 = k)) = i ∧ fndA es k = ((es.map (·.1))[i], true) := by
  have hq : ∀ (j : Nat) (hj : j < es.length), (getA es es[j].1).1 = es[j].2 := fun j hj => by
    have := geI_of_mem hn (show (es[j].1, es[j].2) ∈ es from List.getElem_mem hj)
    simp [getA, this]
  rcases whereN_cases (es.map (·.1)) (fun x => decide ((getA es x).1 = k)) with ⟨h1, h2⟩ | ⟨i, hi, h1, h2, h3⟩
  · refine .inl ⟨h1, ?_⟩
    have : fiI es k = none := fiI_none.2 fun p hp => by
      obtain ⟨j, hj, rfl⟩ := List.getElem_of_mem hp
      have := h2 j (by simpa using hj)
      rw [List.getElem_map, hq j hj] at this
      exact of_decide_eq_false this
    simp [fndA, this]
  · refine .inr ⟨i, hi, h1, ?_⟩
    have hi' : i < es.length := by simpa using hi
    have : fiI es k = some es[i].1 := by
      simp only [fiI, Option.map_eq_some_iff]
      refine ⟨es[i], ?_, rfl⟩
      rw [List.find?_eq_some_iff_getElem]
      rw [List.getElem_map, hq i hi'] at h2
      refine ⟨h2, i, hi', rfl, fun j hj => ?_⟩
      have := h3 j (by simp; omega) hj
      rw [List.getElem_map, hq j (by omega)] at this
      simp at this ⊢
      exact this
    simp [fndA, this]

set_option maxHeartbeats 800000 in
theorem findI_calls (a : Nat) (F : List Nat) (es : Is) (k : Ky) (w : World) (h : Ik w a F es) (hb : es.length ≤ 1000000) {n : Nat} {b : Bool} (hf : fndA es k = (n, b)) :
    Calls Try.prog 20 #[.pointer (some ⟨a, 0, none⟩), .agg #[.int .i64 k.h, .string ⟨k.t.toArray⟩]] w fun e w' => e = .returned (.tuple #[.int .u32 n, .bool b]) ∧ Below w.heap.size w w' := by
  have HM := Lib.hid h
  have hlt := h.lt
  obtain ⟨r, A, c, hc0, hc1, hr, hlk⟩ := h.look
  have HL := Lib.hid hlk
  have HR := Lib.hid hr
  have HW := Lib.hid (fnd_where es h.nodup k)
  have HC0 := Lib.hid hc0
  have hmx := hr.2.2.1
  have hlc := hr.2.1
  obtain ⟨N, hN⟩ : ∃ N, es.length = N := ⟨_, rfl⟩
  rw [hN] at hc1 hlc hb
  have HN := Lib.hid hN
  have HF := Lib.hid hf
  have hmk : ∀ W, (Instr.makeFunc (Fn.func 33) #[] #[.pointer (some ⟨w.heap.size, 0, none⟩), .pointer (some ⟨w.heap.size + 1, 0, none⟩)]).run Try.prog W = .ok (.func (.func 33) #[] #[.pointer (some ⟨w.heap.size, 0, none⟩), .pointer (some ⟨w.heap.size + 1, 0, none⟩)]) W := fun W => by rfl
  clear h hlk hr hN hf
  go_enter Try.func20, Try.ntmps20
  go_wp2_with fail
  have hW2 : ∀ o1 o2 : Obj, Below w.heap.size w ((w.alloc o1).alloc o2) := fun o1 o2 => (below_alloc w o1).trans ((below_alloc _ o2).mono (by simp))
  refine (idxk_calls A N c w.heap.size (w.heap.size + 1) a r k es (es.map (·.1)) _ ?_ ?_).mono ?_
  · have := HR.out.below (hW2 (.cells #[.pointer (some ⟨a, 0, none⟩)] 25) (.cells #[.int .i64 k.h, .string ⟨k.t.toArray⟩] 38))
    rw [HN.out] at this
    rw [List.map_map]
    exact this
  · intro W hW
    have hkb := KyAt.new (w.alloc (.cells #[.pointer (some ⟨a, 0, none⟩)] 25)) k 38
    rw [World.size_alloc] at hkb
    refine ⟨stays hW (by go_simp) (by simp <;> omega), hkb.below hW, stays hW (stays_ (hW2 _ _) hc0) (by simp <;> omega), fun t => ?_⟩
    exact ((HL.out W.drew ((below_then (hW2 _ _) (by simp; omega) hW).drew) t)).2
  rintro e w1 ⟨rfl, b1⟩
  have B1 := Lib.hid (below_then (hW2 _ _) (by simp; omega) b1)
  have c0 : w1.cell? ⟨w.heap.size, 0, none⟩ = some (.pointer (some ⟨a, 0, none⟩)) := stays b1 (by go_simp) (by simp <;> omega)
  have c1 : w1.cell? ⟨a, 1, none⟩ = some (.slice A N c) := stays b1 (stays_ (hW2 _ _) hc1) (by simp <;> omega)
  obtain ⟨wn, hwn⟩ : ∃ wn, (whereN (es.map (·.1)) fun x => decide ((getA es x).1 = k)) = wn := ⟨_, rfl⟩
  rw [hwn] at HW ⊢
  clear b1 hwn hc0 hc1 hmk hW2
  rcases HW.out with ⟨h1, h2⟩ | ⟨i, hi, h1, h2⟩
  · subst h1
    rw [HF.out] at h2
    cases h2
    go_wp2_with fail
    go_ret2
    exact ⟨rfl, B1.out⟩
  · subst h1
    have hiN : i < N := by rw [← HN.out]; simpa using hi
    have hiN' : (i : Int) < N := by omega
    obtain ⟨b0, o0, rfl, g1⟩ := num_at (ns := es.map (·.1)) (by
      have := HR.out.below B1.out
      rw [HN.out] at this
      rw [List.map_map]
      exact this) i hi
    obtain ⟨x, hx⟩ : ∃ x, (es.map (·.1))[i] = x := ⟨_, rfl⟩
    rw [hx] at h2 g1
    rw [HF.out] at h2
    cases h2
    clear hx hi HW
    go_wp2_with fail
    go_ret2
    exact ⟨rfl, B1.out⟩

set_option maxHeartbeats 400000 in
theorem putI_nil (i : Nat) (k : Ky) (w : World) :
    Calls Try.prog 23 #[.pointer none, .int .u32 i, .agg #[.int .i64 k.h, .string ⟨k.t.toArray⟩]] w fun e w' => e = .returned (.int .i64 2) ∧ Below w.heap.size w w' := by
  go_enter Try.func23, Try.ntmps23
  go_wp2
  go_ret
  exact ⟨rfl, below_alloc w _⟩
theorem Try.info_u32 : (Try.prog.info? 33).map (fun i => (i.zero, i.size, i.bytes)) = some (some (.int .u32 0), 1, 4) := by kernel_rfl

set_option maxRecDepth 100000 in
set_option maxHeartbeats 1600000 in
theorem putI_calls (a : Nat) (F : List Nat) (es : Is) (i : Nat) (k : Ky) (w : World) (h : Ik w a F es) (hb : es.length ≤ 1000000) {n : Nat} {es' : Is} (hp : putI es i k = (n, es')) :
    Calls Try.prog 23 #[.pointer (some ⟨a, 0, none⟩), .int .u32 i, .agg #[.int .i64 k.h, .string ⟨k.t.toArray⟩]] w fun e w' => ∃ F', e = .returned (.int .i64 n) ∧ Ik w' a F' es' ∧ Tch F w w' ∧ ∀ x ∈ F', x ∈ F ∨ w.heap.size ≤ x := by
  have HM := Lib.hid h
  have hlt := h.lt
  obtain ⟨N, hN⟩ : ∃ N, es.length = N := ⟨_, rfl⟩
  have HN := Lib.hid hN
  have HP := Lib.hid hp
  obtain ⟨⟨vh, vt⟩, gb, hg⟩ : ∃ v b, getA es i = (v, b) := ⟨_, _, rfl⟩
  obtain ⟨fn, fb, hf⟩ : ∃ fn fb, fndA es k = (fn, fb) := ⟨_, _, rfl⟩
  have hgb : (geI es i).isSome = gb := congrArg (·.2) hg
  have hfb : (fiI es k).isSome = fb := congrArg (·.2) hf
  have HG := Lib.hid hg
  have HF := Lib.hid hf
  have HGB := Lib.hid hgb
  have HFB := Lib.hid hfb
  have hb' : N ≤ 1000000 := by omega
  clear h hb hN hp hg hf hgb hfb
  go_enter Try.func23, Try.ntmps23
  go_wp2_with fail
  refine (getI_calls a F es i _ (HM.out.below (below_alloc w _)) HG.out).mono ?_
  rintro e w1 ⟨rfl, b1⟩
  have hkb := KyAt.new w k 38
  have B1 := Lib.hid (below_then (below_alloc w _) (by simp) b1)
  obtain ⟨k0, k1⟩ := hkb.below b1
  have hz1 : w.heap.size < w1.heap.size := by have := b1.size; simp at this; omega
  clear b1 hkb
  simp only
  go_wp2_with fail
  have b1' := B1.out.alloc B1.out.size (.cells #[.int .i64 vh, .string ⟨vt.toArray⟩] 38)
  refine (findI_calls a F es k _ (HM.out.below b1') (by rw [HN.out]; exact hb') HF.out).mono ?_
  rintro e w2 ⟨rfl, b2⟩
  have q0 : w2.cell? ⟨w.heap.size, 0, none⟩ = some (.int .i64 k.h) := stays b2 (by go_simp) (by simp; omega)
  have q1 : w2.cell? ⟨w.heap.size, 1, none⟩ = some (.string ⟨k.t.toArray⟩) := stays b2 (by go_simp) (by simp; omega)
  have B2 := Lib.hid (below_then b1' b1'.size b2)
  have hz2 : w.heap.size < w2.heap.size := by have := b2.size; simp at this; omega
  have HM2 := Lib.hid (HM.out.below B2.out)
  clear b1' b2 k0 k1
  by_cases htw : (gb || fb) = true
  · have he : putI es i k = (8, es) := by unfold putI; rw [HGB.out, HFB.out, if_pos htw]
    rw [HP.out] at he
    cases he
    cases gb with
    | true =>
      go_wp2_with fail
      go_ret
      exact ⟨F, rfl, HM2.out, Tch.of_below F B2.out, fun x hx => .inl hx⟩
    | false =>
      simp at htw
      subst htw
      go_wp2_with fail
      go_ret
      exact ⟨F, rfl, HM2.out, Tch.of_below F B2.out, fun x hx => .inl hx⟩
  · obtain ⟨rfl, rfl⟩ : gb = false ∧ fb = false := by cases gb <;> cases fb <;> simp_all
    clear htw
    obtain ⟨⟨r, tv, D, h1, h2, h3, h4, h5, h6⟩, hm, hn, hs3⟩ := HM2.out
    obtain ⟨A, c, rfl⟩ := h4.slice
    have hc0 := cell_of_heap (l := [.map (some r), .slice A es.length c]) h1 0 _ rfl
    have hc1 := cell_of_heap (l := [.map (some r), .slice A es.length c]) h1 1 _ rfl
    rw [HN.out] at hc1
    by_cases hfull : 512 ≤ N
    · have he : putI es i k = (4, es) := by unfold putI; rw [HGB.out, HFB.out, HN.out, if_neg (by simp), if_pos hfull]
      rw [HP.out] at he
      cases he
      clear h1 h2 h3 h4 h6 hm hn hs3
      go_wp2_with fail
      go_ret
      exact ⟨F, rfl, HM2.out, Tch.of_below F B2.out, fun x hx => .inl hx⟩
    · have he : putI es i k = (0, es ++ [(i, k)]) := by unfold putI; rw [HGB.out, HFB.out, HN.out, if_neg (by simp), if_neg hfull]
      rw [HP.out] at he
      cases he
      have H1 := Lib.hid h1
      have H2 := Lib.hid h2
      have H3 := Lib.hid h3
      have H4 := Lib.hid h4
      have H6 := Lib.hid h6
      obtain ⟨hne, hog⟩ := ik_sep h1 h2 h4
      have HOG := Lib.hid hog
      clear h1 h2 h3 h4 h6 hm hn hog
      go_wp2_with fail
      go_still_tail 6, (by kernel_rfl)
      change wpList _ _ _ _ _ w2.drew
      refine wpList_mput _ rfl _ _ _ rfl Try.underlying57 keyU r D rfl (H2.out.keep rfl) i rfl (kv k) rfl ?_
      intro w3 hm3 ht3
      have T3 := Lib.hid ht3.of_drew
      have M3 := Lib.hid hm3
      have e1 : w3.cell? ⟨a, 1, none⟩ = some (.slice A N c) := T3.out.cell hc1 (by simpa using hne)
      have hsz := T3.out.size
      have HO3 := Lib.hid (show OwnC 33 1 (fun _ => True) w3 0 (.slice A N c) N (rowC es) by
        have h4 := H4.out.tch T3.out fun k hk => by simpa using (HOG.out k hk).2
        rw [HN.out] at h4
        exact h4)
      obtain ⟨i0, hi, hz0, hz1', hz2'⟩ := info_parts Try.info_u32
      clear hm3 ht3 q0 q1 hc0 hc1
      go_wp2_with (at_builtin; refine wpList_appC _ rfl _ _ _ rfl 0 i0 (.int .u32 0) 4 Try.underlying31 hi hz0 hz1' hz2' rfl (by decide) (fun _ _ => trivial) (.slice A N c) N (rowC es) rfl ?own (some ⟨w3.heap.size, 0, none⟩) 1 1 [uv i] rfl ?rd ?hb ?h63 ?hbase ?_)
      case own => exact HO3.out.alloc _
      case rd => exact rdc_box [uv i] 1 1 rfl (by simp [uv_one]) (by decide)
      case hb => omega
      case h63 => omega
      case hbase => omega
      intro v4 w4 o4 g4 _ q5
      obtain ⟨A4, c4, rfl⟩ := o4.slice
      have hra : a < w2.heap.size := by omega
      have T4 := Lib.hid (show Tch F w2 w4 from ((T3.out.mono (G := F) (by simpa using h5)).alloc _).grown g4 (fun k hk => .inl (H6.out k (by rw [HN.out]; exact hk))))
      have hnw : ∀ k, (Value.slice A N c).ownBlock = some k → k ≠ a ∧ k ≠ r := fun k hk => HOG.out k (by rw [HN.out]; exact hk)
      have HA := Lib.hid (show w4.heap[a]? = w2.heap[a]? by
        rw [g4.block a (by simp; omega) (fun e => (hnw a e.symm).1 rfl), heap_alloc_old _ _ (by omega)]
        exact T3.out.block a hra (by simpa using hne))
      have HM4 := Lib.hid (show MapS uv w4 r (mput D i (kv k)) by
        refine M3.out.keep ?_
        have := M3.out.lt
        rw [g4.block r (by simp; omega) (fun e => (hnw r e.symm).2 rfl), heap_alloc_old _ _ this])
      have ho4 : OwnC 33 1 (fun _ => True) w4 0 (.slice A4 (N + 1) c4) (es ++ [(i, k)]).length (rowC (es ++ [(i, k)])) := by
        rw [List.length_append, rowC, List.map_append, HN.out]
        exact o4
      have hv4 : ∀ g, (Value.slice A4 (N + 1) c4).ownBlock = some g → g ∈ F ∨ w2.heap.size ≤ g := fun g hg => by
        rcases q5 with q5 | q5
        · exact .inl (H6.out g (by rw [HN.out, ← q5]; exact hg))
        · right
          rw [q5] at hg
          simp at hg
          omega
      have hgn : geI es i = none := by
        have := HGB.out
        cases hh : geI es i with
        | none => rfl
        | some _ => rw [hh] at this; simp at this
      have HFIN := Lib.hid (ik_close H1.out HA.out HM4.out (fun j => by
        rw [luk_put, geI_snoc _ _ _ hgn, H3.out]
        split <;> rfl) ho4 (nodupI_snoc HM.out.nodup hgn k) HM2.out.mem h5 hv4 T4.out HM2.out.lts)
      have ha2 := HA.out.trans H1.out
      have r1 := cell_of_heap (l := [.map (some r), .slice A es.length c]) ha2 1 _ rfl
      have r2 := froz_of_heap ha2 1
      clear o4 g4 ho4 hv4 hnw ha2 e1 q5
      go_wp2_with fail
      go_ret
      obtain ⟨F', f1, f2, f3⟩ := HFIN.out
      refine ⟨F', rfl, f1, (Tch.of_below F B2.out).trans_ f2, fun x hx => ?_⟩
      rcases f3 x hx with h | h
      · exact .inl h
      · right; omega
end Go.Proofs.Ytafmhpcfjmannaa

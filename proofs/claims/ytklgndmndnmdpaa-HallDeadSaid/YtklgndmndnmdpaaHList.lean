import Derived.Test.YtklgndmndnmdpaaHTick
set_option linter.unusedVariables false
set_option linter.unusedSimpArgs false
namespace Go.Proofs.Ytklgndmndnmdpaa
open Go.RowKit Go.Shelf

/-- Messages handed out. -/
def Msl (W : World) (base : Nat) (v : Value) (ms : List (Mg × Value)) : Prop := OwnC 41 5 (fun _ => True) W base v ms.length (mgL ms) ∧ ∀ x ∈ ms, Bdv W x.2 x.1.body
theorem itc_length (x : En × Value) : (itc x).length = 6 := rfl
theorem results_vals {fn : Func} {t u : Tmp} (h : fn.results = #[.tmp t, .tmp u]) {tmps : Array Value} {W : World} {v v' : Value} (ht : tmps.getD t undef = v) (hu : tmps.getD u undef = v') : (results fn tmps).run Try.prog W = .ok (.tuple #[v, v']) W := results_tt h ht hu
set_option maxRecDepth 100000 in
set_option maxHeartbeats 4000000 in
theorem hlist1_calls {w0 w : World} {Z : List Nat} {q room limit last : Nat} {L : List En} (hq : QF w0 w Z q room limit last L) :
    Calls Try.prog 45 #[.pointer (some ⟨q, 0, none⟩)] w fun e w' => ∃ v ms, e = .returned (.tuple #[v, .int .i64 0]) ∧ ms.map (·.1) = (ordQ false L).map (·.m) ∧ Msl w' w.heap.size v ms ∧ Below w.heap.size w w' := by
  have HCL := Lib.hid (qf_list hq)
  have hlen : (ordQ false L).length ≤ 64 := ord_len hq.wf
  clear hq
  go_enter Try.func45, Try.ntmps45
  go_wp2_with fail
  refine HCL.out.mono ?_
  rintro e w1 ⟨v, its, rfl, j1, j2, j3, j4⟩
  obtain ⟨A, c, rfl⟩ := j2.slice
  obtain ⟨n, hn⟩ : ∃ n, its.length = n := ⟨_, rfl⟩
  rw [hn] at j2
  rw [hn]
  have hn64 : n ≤ 64 := by have := congrArg List.length j1; rw [List.length_map] at this; omega
  obtain ⟨A', c', hv, hr⟩ := j2.rd
  cases hv
  have hlc := hr.2.1
  have hmx := hr.2.2.1
  have J1 := Lib.hid j1
  have J2 := Lib.hid hr
  have J3 := Lib.hid j3
  have J4 := Lib.hid j4
  have HN := Lib.hid hn
  clear j1 j2 j3 j4 hn hr hlen
  go_wp2_with fail
  go_loopw [2, 5, 9] (fun v _ i wr => ∃ (k : Nat), k ≤ n ∧ i = .int .i64 k ∧ OwnC 41 5 (fun _ => True) wr w1.heap.size v k (mgL ((its.take k).map fun x => (x.1.m, x.2))) ∧ Below w1.heap.size w1 wr) (fun _ _ i _ => n - (intOf i).toNat)
  case atStart => exact ⟨0, by omega, rfl, OwnC.nil_, Below.refl _ _⟩
  case round =>
    obtain ⟨k, hk, rfl, ho, hb⟩ := hrel
    have HO := Lib.hid ho
    have HB := Lib.hid hb
    clear ho hb
    by_cases hkn : k < n
    · have hkn' : (k : Int) < n := by omega
      have hkl : k < its.length := by rw [HN.out]; exact hkn
      obtain ⟨b0, o0, e, hcell⟩ := flat_cells itc 6 (by decide) itc_length (J2.out.below HB.out) k hkl
      subst e
      obtain ⟨p, hp⟩ : ∃ p, its[k] = p := ⟨_, rfl⟩
      rw [hp] at hcell
      obtain ⟨Ab, cb, hbv, -⟩ := Bdv.of_own (J3.out p (by rw [← hp]; exact List.getElem_mem _))
      have d0 := hcell 0 (.int .i64 p.1.id) rfl
      have d1 := hcell 1 (.int .u8 p.1.m.pr) rfl
      have d2 := hcell 2 (.int .u32 p.1.m.ttl) rfl
      have d3 := hcell 3 (.int .u32 p.1.m.cnt) rfl
      have d4 := hcell 4 (.string ⟨p.1.m.ids.toArray⟩) rfl
      have d5 := hcell 5 (.slice Ab p.1.m.body.length cb) (by show some p.2 = _; rw [hbv])
      simp only [← Nat.add_assoc, Nat.add_zero] at d0 d1 d2 d3 d4 d5
      have HST := Lib.hid (show (its.take (k + 1)).map (fun x => (x.1.m, x.2)) = (its.take k).map (fun x => (x.1.m, x.2)) ++ [(p.1.m, p.2)] by rw [List.take_succ_eq_append_getElem hkl, hp, List.map_append]; rfl)
      have HBV := Lib.hid hbv
      have hsz : w1.heap.size ≤ wr.heap.size := HB.out.size
      clear hcell hp hbv
      obtain ⟨i0, hi, hz0, hz1, hz2⟩ := info_parts Try.info_msg
      go_wp2_with (at_builtin; refine wpList_appC _ rfl _ _ _ rfl w1.heap.size i0 _ 56 Try.underlying60 hi hz0 hz1 hz2 rfl (by decide) (fun _ _ => trivial) u2 k (mgL ((its.take k).map fun x => (x.1.m, x.2))) rfl ?own (some ⟨wr.heap.size + 1, 0, none⟩) 1 1 (mcs p.1.m (.slice Ab p.1.m.body.length cb)) rfl ?rd ?hb ?h63 ?hbase ?_)
      case own => exact (HO.out.alloc _).alloc _
      case rd =>
        have hh := rdc_box (w := wr.alloc (.cells #[.int .i64 p.1.id, .int .u8 p.1.m.pr, .int .u32 p.1.m.ttl, .int .u32 p.1.m.cnt, .string ⟨p.1.m.ids.toArray⟩, .slice Ab p.1.m.body.length cb] 104)) (e := 41) [.int .u8 p.1.m.pr, .int .u32 p.1.m.ttl, .int .u32 p.1.m.cnt, .string ⟨p.1.m.ids.toArray⟩, .slice Ab p.1.m.body.length cb] 1 5 rfl (by simp [Value.oneCell']) (by decide)
        simp only [World.size_alloc] at hh
        exact hh
      case hb => omega
      case h63 => omega
      case hbase => simp; omega
      intro v1 w2 k1 k2 k3 k4
      have K1 := Lib.hid k1
      have K2 := Lib.hid (below_grown ((HB.out.alloc HB.out.size _).alloc (by simp; omega) _) (by simp; omega) k2 (fun k hk => (HO.out.lt k hk).1))
      clear k1 k2 k3 k4
      go_wp2_with fail
      go_roundw
      case rel =>
        refine ⟨k + 1, by omega, by go_num, ?_, K2.out⟩
        have h1 := K1.out
        rw [HST.out]
        unfold mgL at h1 ⊢
        rw [List.flatMap_append]
        simpa [HBV.out] using h1
      case measure => simp [intOf]; omega
    · obtain rfl : k = n := by omega
      obtain ⟨A', c', rfl⟩ := HO.out.slice
      go_wp2_with fail
      refine bodyPost_ret (results_tt rfl rfl rfl) rfl ⟨_, its.map fun x => (x.1.m, x.2), rfl, ?_, ⟨?_, fun x hx => ?_⟩, below_then J4.out J4.out.size HB.out⟩
      · rw [← J1.out, List.map_map, List.map_map]; rfl
      · have h1 := HO.out
        rw [List.take_of_length_le (by rw [HN.out]; exact Nat.le_refl _)] at h1
        rw [List.length_map, HN.out]
        exact h1.base J4.out.size
      · obtain ⟨y, hy, rfl⟩ := List.mem_map.1 hx
        exact (Bdv.of_own (J3.out y hy)).below HB.out
section
variable {w0 w : World} {G : List Nat} {h lost : Nat} {C : List Cf} {Qs : List Qu}
set_option maxRecDepth 100000 in
theorem hwithL_of (p P : Option Addr) (name : List UInt8) (R : Ending → World → Prop) (hpn : p ≠ none)
    (hq : Calls Try.prog 47 #[.pointer p, str name] w fun e w' => e = .returned (.pointer P) ∧ w = w')
    (hn : P = none → R (.returned (.tuple #[.slice none 0 0, .int .i64 5])) w)
    (hs : P ≠ none → Calls Try.prog 45 #[.pointer P] w fun e w' => ∃ A n c E, e = .returned (.tuple #[.slice A n c, .int .i64 E]) ∧ R e w') :
    Calls Try.prog 44 #[.pointer p, str name, .func (.func 45) #[] #[]] w R := by
  unfold str at hq ⊢
  have HQ := Lib.hid hq
  have HNO := Lib.hid hn
  have HS := Lib.hid hs
  clear hq hn hs
  cases p with
  | none => exact absurd rfl hpn
  | some ad =>
    clear hpn
    go_enter Try.func44, Try.ntmps44
    go_wp2_with fail
    refine HQ.out.mono ?_
    rintro e w' ⟨rfl, rfl⟩
    cases P with
    | none =>
      go_wp2_with fail
      exact HNO.out (by first | rfl | trivial)
    | some a =>
      have HS2 := Lib.hid (HS.out (by simp))
      go_wp2_with fail
      refine HS2.out.mono ?_
      rintro e w2 ⟨A, n, c, E, rfl, hR⟩
      have HR := Lib.hid hR
      clear hR
      go_wp2_with fail
      exact HR.out
set_option maxRecDepth 100000 in
theorem hwithL_nil (name : List UInt8) (w : World) :
    Calls Try.prog 44 #[.pointer none, str name, .func (.func 45) #[] #[]] w fun e w' => e = .returned (.tuple #[.slice none 0 0, .int .i64 2]) ∧ w = w' := by
  unfold str
  go_enter Try.func44, Try.ntmps44
  go_wp2_with fail
  exact bodyPost_ret (results_tt rfl rfl rfl) rfl ⟨rfl, rfl⟩
set_option maxRecDepth 100000 in
theorem hlist_of (p : Option Addr) (name : List UInt8) (R : Ending → World → Prop)
    (hc : Calls Try.prog 44 #[.pointer p, str name, .func (.func 45) #[] #[]] w fun e w' => ∃ A n c E, e = .returned (.tuple #[.slice A n c, .int .i64 E]) ∧ R e w') :
    Calls Try.prog 18 #[.pointer p, str name] w R := by
  unfold str at hc ⊢
  have HC := Lib.hid hc
  clear hc
  go_enter Try.func18, Try.ntmps18
  go_wp2_with fail
  refine HC.out.mono ?_
  rintro e w2 ⟨A, n, c, E, rfl, hR⟩
  have HR := Lib.hid hR
  clear hR
  go_wp2_with fail
  exact HR.out
theorem hlist_nil (name : List UInt8) (w : World) :
    Calls Try.prog 18 #[.pointer none, str name] w fun e w' => e = .returned (.tuple #[.slice none 0 0, .int .i64 2]) ∧ w = w' :=
  hlist_of none name _ ((hwithL_nil name w).mono fun e w' h => ⟨none, 0, 0, 2, h.1, h⟩)
def hasQ (C : List Cf) (Qs : List Qu) (name : List UInt8) : Nat := if qAt C Qs name = none then 5 else 0
theorem hlist_calls (hf : HF w0 w G h C Qs lost) (name : List UInt8) :
    Calls Try.prog 18 #[.pointer (some ⟨h, 0, none⟩), str name] w fun e w' => ∃ v ms, e = .returned (.tuple #[v, .int .i64 (hasQ C Qs name)]) ∧ ms.map (·.1) = (ordQ false (qLs C Qs name)).map (·.m) ∧ Msl w' w.heap.size v ms ∧ Below w.heap.size w w' := by
  refine hlist_of (some ⟨h, 0, none⟩) name _ (hwithL_of _ (qAt C Qs name) name _ (by simp) (hqueue_calls hf name) (fun hn => ?_) fun hs => ?_)
  · refine ⟨none, 0, 0, 5, rfl, .slice none 0 0, [], ?_, ?_, ⟨OwnC.nil_, by simp⟩, Below.refl _ _⟩
    · unfold hasQ; rw [if_pos hn]; rfl
    · rw [qLs_none hn]; rfl
  · obtain ⟨a, ha⟩ := Option.ne_none_iff_exists'.1 hs
    obtain ⟨i, hi, hA, rfl, -⟩ := qAt_some ha
    rw [ha]
    obtain ⟨Z, g1, -, -⟩ := hf.step i hi
    refine (hlist1_calls g1).mono ?_
    rintro e w' ⟨v, ms, rfl, h1, h2, h3⟩
    obtain ⟨A, c, rfl⟩ := h2.1.slice
    refine ⟨A, _, c, 0, rfl, A, _, c, 0, rfl, .slice A ms.length c, ms, ?_, ?_, h2, h3⟩
    · unfold hasQ; rw [if_neg hs]; rfl
    · rw [qLs_some hi hA]; exact h1
end
end Go.Proofs.Ytklgndmndnmdpaa

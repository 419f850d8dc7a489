import Derived.Test.YtklgndmndnmdpaaHQ
import Derived.Test.YtklgndmndnmdpaaQVast
set_option linter.unusedVariables false
set_option linter.unusedSimpArgs false
namespace Go.Proofs.Ytklgndmndnmdpaa
open Go.RowKit Go.Shelf

theorem hlbeq (x t : List UInt8) : (x == t) = decide (x = t) := by
  by_cases h : x = t
  · subst h; simp
  · rw [decide_eq_false h]; simpa using h
theorem hresults_ct {fn : Func} {t u : Tmp} {ty : TypeId} (h : fn.results = #[.cell t ty, .tmp u]) {tmps : Array Value} {W : World} {a : Addr} {v v' : Value} (ht : tmps.getD t undef = .pointer (some a)) (hu : tmps.getD u undef = v')
    (hl : (loadVar ty a).run Try.prog W = .ok v W) : (results fn tmps).run Try.prog W = .ok (.tuple #[v, v']) W := by
  simp only [Array.getD_eq_getD_getElem?] at ht hu
  simp [results, h, ht, hu, asAddr, Sem.run_bind, Sem.run, hl, Result.andThen]
/-- The place of a name; -1: none. -/
def atI (C : List Cf) (name : List UInt8) : Int := match atC C name with | some i => i | none => -1
theorem atI_at {C : List Cf} {name : List UInt8} {k : Nat} (hk : k < C.length) (h1 : (C[k]).name = name) (h2 : ∀ j (hj : j < C.length), j < k → (C[j]).name ≠ name) : atC C name = some k := by
  unfold atC
  rw [List.findIdx?_eq_some_iff_getElem]
  exact ⟨hk, by simpa using h1, fun j hj => by simpa using h2 j (by omega) hj⟩
theorem atI_none {C : List Cf} {name : List UInt8} (h : ∀ j (hj : j < C.length), (C[j]).name ≠ name) : atC C name = none := by
  unfold atC
  rw [List.findIdx?_eq_none_iff]
  intro x hx
  obtain ⟨j, hj, rfl⟩ := List.mem_iff_getElem.1 hx
  simpa using h j hj

set_option maxHeartbeats 400000 in
theorem same_cfg (p : Cf) (t : List UInt8) (b : Nat) (w : World) (h : w.cell? ⟨b, 0, none⟩ = some (str t)) :
    Calls Try.prog 59 #[.agg #[.string ⟨p.name.toArray⟩, .int .i64 p.room, .int .i64 p.limit, .string ⟨p.dead.toArray⟩], .pointer (some ⟨b, 0, none⟩)] w fun e w' => e = .returned (.bool (decide (p.name = t))) ∧ Below w.heap.size w w' := by
  unfold str at h
  have hlt := World.block_lt_of_cell? _ _ h
  have h2 := stays_ (below_alloc w (.cells #[.string ⟨p.name.toArray⟩, .int .i64 p.room, .int .i64 p.limit, .string ⟨p.dead.toArray⟩] 23)) h
  go_enter Try.func59, Try.ntmps59
  go_wp2
  go_ret
  refine ⟨?_, below_alloc w _⟩
  rw [← hlbeq]
  rfl

set_option maxHeartbeats 800000 in
theorem idxc_calls (A : Option Addr) (n c b : Nat) (C : List Cf) (t : List UInt8) (w : World) (h : RdC 4 w A n c (C.flatMap cfs)) (hc : w.cell? ⟨b, 0, none⟩ = some (str t)) :
    Calls Try.prog 58 #[.slice A n c, .func (.func 59) #[] #[.pointer (some ⟨b, 0, none⟩)]] w fun e w' => e = .returned (.int .i64 (atI C t)) ∧ Below w.heap.size w w' := by
  have hl : n = C.length := by have := h.1; rw [flat_length cfs 4 cfs_length] at this; omega
  subst hl
  have H := Lib.hid h
  have HC := Lib.hid hc
  have hmx := h.2.2.1
  have hlc := h.2.1
  obtain ⟨N, hN⟩ : ∃ N, C.length = N := ⟨_, rfl⟩
  rw [hN] at hlc ⊢
  have HN := Lib.hid hN
  clear h hc hN
  go_enter Try.func58, Try.ntmps58
  go_wp2_with fail
  go_loopw [5, 8] (fun _ i wr => ∃ k : Nat, k ≤ N ∧ i = .int .i64 k ∧ Below w.heap.size w wr ∧ Hid (∀ j (hj : j < C.length), j < k → (C[j]).name ≠ t)) (fun _ i _ => N - (intOf i).toNat)
  case atStart => exact ⟨0, by omega, rfl, Below.refl _ _, Lib.hid (fun j _ hj => by omega)⟩
  case round =>
    obtain ⟨k, hk, rfl, hbl, HB⟩ := hrel
    have HBL := Lib.hid hbl
    clear hbl
    by_cases hkN : k < N
    · have hkl : k < C.length := by rw [HN.out]; exact hkN
      obtain ⟨b0, o0, e, hcell⟩ := flat_cells cfs 4 (by decide) cfs_length (H.out.below HBL.out) k hkl
      subst e
      obtain ⟨p, hp⟩ : ∃ p, C[k] = p := ⟨_, rfl⟩
      rw [hp] at hcell
      have g0 := hcell 0 (.string ⟨p.name.toArray⟩) rfl
      have g1 := hcell 1 (.int .i64 p.room) rfl
      have g2 := hcell 2 (.int .i64 p.limit) rfl
      have g3 := hcell 3 (.string ⟨p.dead.toArray⟩) rfl
      simp only [← Nat.add_assoc, Nat.add_zero] at g0 g1 g2 g3
      have HP := Lib.hid hp
      have hkN' : (k : Int) < N := by omega
      clear hp hcell
      go_wp2_with fail
      refine (same_cfg p t b _ (stays_ HBL.out HC.out)).mono ?_
      rintro e w1 ⟨rfl, b1⟩
      have B1 := Lib.hid (below_then HBL.out HBL.out.size b1)
      clear b1
      by_cases hxt : p.name = t
      · rw [decide_eq_true hxt]
        have HW := Lib.hid (show atI C t = k by unfold atI; rw [atI_at hkl (by rw [HP.out]; exact hxt) HB.out])
        clear hxt
        go_wp2_with fail
        go_ret
        exact ⟨by rw [HW.out]; rfl, B1.out⟩
      · rw [decide_eq_false hxt]
        have HXT := Lib.hid hxt
        clear hxt
        go_wp2_with fail
        refine ⟨⟨k + 1, by omega, by go_num, B1.out, Lib.hid (fun j hj hjk => ?_)⟩, by simp [intOf]; omega⟩
        by_cases h' : j < k
        · exact HB.out j hj h'
        · obtain rfl : j = k := by omega
          rw [HP.out]; exact HXT.out
    · obtain rfl : k = N := by omega
      have HW := Lib.hid (show atI C t = -1 by unfold atI; rw [atI_none fun j hj => HB.out j hj (by have := HN.out; omega)])
      go_wp2_with fail
      go_ret
      exact ⟨by rw [HW.out]; rfl, HBL.out⟩

def zCf : Cf := ⟨[], 0, 0, []⟩
def cfgAt (C : List Cf) (name : List UInt8) : Cf := ((atC C name).bind fun i => C[i]?).getD zCf
set_option maxRecDepth 100000 in
set_option maxHeartbeats 1000000 in
theorem hconfig_calls {w0 w : World} {G : List Nat} {h lost : Nat} {C : List Cf} {Qs : List Qu} (hf : HF w0 w G h C Qs lost) (name : List UInt8) :
    Calls Try.prog 27 #[.pointer (some ⟨h, 0, none⟩), str name] w fun e w' => e = .returned (.tuple #[.agg (cfs (cfgAt C name)).toArray, .bool (atC C name).isSome]) ∧ Below w.heap.size w w' := by
  obtain ⟨⟨cv, r, D, h1, h2, h3, h4, h5⟩, -, -, h8⟩ := hf
  obtain ⟨A, c, rfl, hr⟩ := h2.rd
  obtain ⟨n, hn⟩ : ∃ n, C.length = n := ⟨_, rfl⟩
  rw [hn] at h1 hr h8
  have hb3 : ∀ o o', Below w.heap.size w ((w.alloc o).alloc o') := fun o o' => (below_alloc w o).alloc (by simp) _
  have H1 := Lib.hid h1
  have HR := Lib.hid hr
  have HN := Lib.hid hn
  have HB := Lib.hid hb3
  have c0 := h1.cell 0 _ rfl
  have hlt := h1.lt
  have hlc := hr.2.1
  have hmx := hr.2.2.1
  clear h1 h2 h3 h4 h5 hr hn hb3
  have hstr : str name = .string ⟨name.toArray⟩ := rfl
  rw [hstr]
  have hmk : ∀ W, (Instr.makeFunc (Fn.func 59) #[] #[.pointer (some ⟨w.heap.size, 0, none⟩)]).run Try.prog W = .ok (.func (.func 59) #[] #[.pointer (some ⟨w.heap.size, 0, none⟩)]) W := fun W => rfl
  clear hstr
  go_enter Try.func27, Try.ntmps27
  go_wp2_with fail
  refine (idxc_calls A n c w.heap.size C name _ (HR.out.below (HB.out _ _)) ((((Bx.new w 9 [str name]).alloc _)).cell 0 _ rfl)).mono ?_
  rintro e w2 ⟨rfl, b2⟩
  have k4 := (Bx.new' (w.alloc (.cells [str name].toArray 9)) (b := w.heap.size + 1) 23 (cfs zCf) (by simp)).below b2
  have B2 := Lib.hid (below_then (HB.out _ _) (HB.out _ _).size b2)
  have m0 := k4.cell 0 _ rfl
  have m1 := k4.cell 1 _ rfl
  have m2 := k4.cell 2 _ rfl
  have m3 := k4.cell 3 _ rfl
  have n0 := k4.froz 0
  have n1 := k4.froz 1
  have n2 := k4.froz 2
  have n3 := k4.froz 3
  have K4 := Lib.hid k4
  have c1 := stays B2.out c0 hlt
  clear b2 k4 c0 hmk
  have hend : ∀ (W : World), Tch [w.heap.size + 1] w2 W → Below w.heap.size w W := fun W t => Tch.below (F := [w.heap.size + 1]) ((Tch.of_below _ B2.out).trans_ t) (Nat.le_refl _) (by simp)
  have HEND := Lib.hid hend
  clear hend
  cases hA : atC C name with
  | none =>
    rw [show atI C name = -1 by unfold atI; rw [hA]]
    have HC := Lib.hid (show cfgAt C name = zCf by unfold cfgAt; rw [hA]; rfl)
    have HA := Lib.hid hA
    clear hA
    go_wp2_with fail
    refine forgetX (fun W => Bx W (w.heap.size + 1) 23 (cfs zCf) ∧ Tch [w.heap.size + 1] w2 W) ⟨?_, ?_⟩ ?_
    · with_reducible refine Bx.to ((((K4.out.set 0 _).set 1 _).set 2 _).set 3 _) ?_
      rfl
    · with_reducible repeat first | exact Tch.refl _ _ | refine Tch.setCell ?_ _ (.inl (by simp))
    rintro W ⟨kb, tb⟩
    exact bodyPost_ret (hresults_ct rfl rfl rfl (kb.loadAgg (by kernel_rfl) (by kernel_rfl))) rfl ⟨by rw [HC.out, HA.out]; rfl, HEND.out W tb⟩
  | some k =>
    have hk : k < C.length := by
      unfold atC at hA
      rw [List.findIdx?_eq_some_iff_getElem] at hA
      exact hA.1
    rw [show atI C name = k by unfold atI; rw [hA]]
    have hcf : cfgAt C name = C[k] := by unfold cfgAt; rw [hA]; simp [List.getElem?_eq_getElem hk]
    have HA := Lib.hid hA
    have hkn : k < n := by rw [← HN.out]; exact hk
    have hkn' : (k : Int) < n := by omega
    have hk0 : ¬ (k : Int) < 0 := by omega
    obtain ⟨b0, o0, e, hcell⟩ := flat_cells cfs 4 (by decide) cfs_length (HR.out.below B2.out) k hk
    subst e
    obtain ⟨p, hp⟩ : ∃ p, C[k] = p := ⟨_, rfl⟩
    rw [hp] at hcell hcf
    have HC := Lib.hid hcf
    clear hcf
    have g0 := hcell 0 (.string ⟨p.name.toArray⟩) rfl
    have g1 := hcell 1 (.int .i64 p.room) rfl
    have g2 := hcell 2 (.int .i64 p.limit) rfl
    have g3 := hcell 3 (.string ⟨p.dead.toArray⟩) rfl
    simp only [← Nat.add_assoc, Nat.add_zero] at g0 g1 g2 g3
    clear hA hcell hp hk
    go_wp2_with fail
    refine forgetX (fun W => Bx W (w.heap.size + 1) 23 (cfs p) ∧ Tch [w.heap.size + 1] w2 W) ⟨?_, ?_⟩ ?_
    · with_reducible refine Bx.to ((((K4.out.set 0 _).set 1 _).set 2 _).set 3 _) ?_
      rfl
    · with_reducible repeat first | exact Tch.refl _ _ | refine Tch.setCell ?_ _ (.inl (by simp))
    rintro W ⟨kb, tb⟩
    exact bodyPost_ret (hresults_ct rfl rfl rfl (kb.loadAgg (by kernel_rfl) (by kernel_rfl))) rfl ⟨by rw [HC.out, HA.out]; rfl, HEND.out W tb⟩
end Go.Proofs.Ytklgndmndnmdpaa
